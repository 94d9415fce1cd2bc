/- Frames, taken: sealed, take, Take. Conditions: as each lemma says. -/
import Derived.Test.YtonjaaljnjjjcaaK8
set_option linter.unusedVariables false
set_option linter.unusedSimpArgs false
namespace Go.Proofs.Ytonjaaljnjjjcaa
open Go Go.RowKit

/-- Do bytes end with their sum? -/
def sealedF (l : List UInt8) : Bool := decide (sealL (l.take (l.length - 4)) = l)

/-- sealed. -/
theorem k154 {E w : World} {L : List Chunk} {s : SV} {l : List UInt8} (hS : Sep E w L) (hr : RdB L s l) (h4 : 4 ≤ l.length) (hb : l.length ≤ 1000000000000) :
    Calls Pr 154 #[.slice s.a s.len s.cap] w fun e w' => e = .returned (.bool (sealedF l)) ∧ ∃ C, Sep E w' (C ++ L) := by
  refine call154 ?_
  unfold ir154
  have hsz := hr.size
  have hcap := hr.cap
  have hw : IntKind.wrap .i64 (((s.len : Nat) : Int) - 4) = ((l.length - 4 : Nat) : Int) := by rw [w64 (by omega) (by omega)]; omega
  rw [hw]
  refine ⟨⟨by omega, by omega⟩, ?_⟩
  have hc := hr.cut (l := 0) (h := l.length - 4) (m := s.cap) (by omega) (by omega) (by omega) (Nat.le_refl _)
  rw [Int.toNat_natCast]
  refine (k137 hS hc (by simp; omega)).mono ?_
  rintro _ w1 ⟨s1, C1, rfl, hr1, hS1⟩
  refine ⟨s1, rfl, ?_⟩
  refine (k166 hS1 (hr1.left L) (hr.right C1) (by rw [sealL_len]; simp; omega)).mono ?_
  rintro _ w2 ⟨rfl, hS2⟩
  refine ⟨_, rfl, ?_, C1, hS2⟩
  unfold sealedF
  rw [List.drop_zero, Nat.sub_zero]

def takeF (l : List UInt8) : Int × List UInt8 × Nat :=
  if (spanF l).1 ≠ 0 then ((spanF l).1, [], 0)
  else if sealedF (l.take ((spanF l).2 + 4)) = false then (6, [], 0)
  else (0, (l.take (spanF l).2).drop 4, (spanF l).2 + 4)

theorem spanF_ok {l : List UInt8} (h : (spanF l).1 = 0) : (spanF l).2 + 4 ≤ l.length ∧ 4 ≤ (spanF l).2 := by
  unfold spanF at h ⊢
  split
  · rename_i h1; rw [if_pos h1] at h; simp at h
  · rename_i h1
    rw [if_neg h1] at h
    split
    · rename_i h2; rw [if_pos h2] at h; simp at h
    · rename_i h2
      rw [if_neg h2] at h
      split
      · rename_i h3; rw [if_pos h3] at h; simp at h
      · simp only; omega

/-- take. -/
theorem k135 {E w : World} {L I : List Chunk} {s : SV} {l : List UInt8} (hS : Sep E w L) (hr : RdB I s l) (hI : ∀ c ∈ I, c ∈ L) (hb : l.length ≤ 1000000000000) :
    Calls Pr 135 #[.slice s.a s.len s.cap] w fun e w' => ∃ (s' : SV) (C : List Chunk), e = .returned (.tuple #[.slice s'.a s'.len s'.cap, .int .i64 (((takeF l).2.2 : Nat) : Int), .int .i64 (takeF l).1]) ∧ RdB I s' (takeF l).2.1 ∧ Sep E w' (C ++ L) := by
  refine call135 ?_
  unfold ir135
  have hsz := hr.size
  have hcap := hr.cap
  have hrL : RdB L s l := hr.mono hI
  refine (k153 hS hrL (by omega)).mono ?_
  rintro _ w1 ⟨rfl, C1, hS1⟩
  refine ⟨_, _, rfl, brc_intro (fun h => ?_) (fun h => ?_)⟩
  · have h : (spanF l).1 ≠ 0 := by simpa using h
    have ht : takeF l = ((spanF l).1, [], 0) := by simp [takeF, h]
    rw [ht]
    exact ⟨SV.nil, C1, rfl, RdS.none I 1, hS1⟩
  have h : (spanF l).1 = 0 := by simpa using h
  obtain ⟨hk1, hk2⟩ := spanF_ok h
  generalize hsp : (spanF l).2 = k at *
  have hw : IntKind.wrap .i64 (((k : Nat) : Int) + 4) = ((k + 4 : Nat) : Int) := by rw [w64 (by omega) (by omega)]; omega
  rw [hw]
  refine ⟨⟨by omega, by omega⟩, ?_⟩
  have hc := hr.cut (l := 0) (h := k + 4) (m := s.cap) (by omega) (by omega) (by omega) (Nat.le_refl _)
  rw [List.drop_zero, Nat.sub_zero] at hc
  rw [Int.toNat_natCast]
  refine (k154 hS1 ((hc.mono hI).right C1) (by simp; omega) (by simp; omega)).mono ?_
  rintro _ w2 ⟨rfl, C2, hS2⟩
  refine ⟨_, rfl, brc_intro (fun h2 => ?_) (fun h2 => ?_)⟩
  · have h2 : sealedF (l.take (k + 4)) = false := by simpa using h2
    have ht : takeF l = (6, [], 0) := by simp [takeF, h, hsp, h2]
    rw [ht]
    exact ⟨SV.nil, C2 ++ C1, rfl, RdS.none I 1, by rw [List.append_assoc]; exact hS2⟩
  · have h2 : sealedF (l.take (k + 4)) = true := by simpa using h2
    have ht : takeF l = (0, (l.take k).drop 4, k + 4) := by simp [takeF, h, hsp, h2]
    rw [ht]
    refine ⟨⟨by omega, by omega⟩, ⟨by omega, by omega⟩, ?_⟩
    have hd := hr.cut (l := 4) (h := k) (m := s.cap) (by omega) (by omega) (by omega) (Nat.le_refl _)
    refine ⟨⟨cutAt s.a 4 s.cap 1, k - 4, s.cap - 4⟩, C2 ++ C1, rfl, ?_, by rw [List.append_assoc]; exact hS2⟩
    have e : (l.drop 4).take (k - 4) = (l.take k).drop 4 := by rw [List.drop_take]
    rw [e] at hd
    exact hd

end Go.Proofs.Ytonjaaljnjjjcaa
