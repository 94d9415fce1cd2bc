/- Frames, taken: the first one. Conditions: as each lemma says. -/
import Derived.Test.YtonjaaljnjjjcaaK7
set_option linter.unusedVariables false
set_option linter.unusedSimpArgs false
namespace Go.Proofs.Ytonjaaljnjjjcaa
open Go Go.RowKit

def spanF (l : List UInt8) : Int × Nat :=
  if l.length < 4 then (5, 0) else if beVal (l.take 4) > 4096 then (6, 0) else if l.length < 8 + beVal (l.take 4) then (5, 0) else (0, 4 + beVal (l.take 4))

/-- span. -/
theorem k153 {E w : World} {L : List Chunk} {s : SV} {l : List UInt8} (hS : Sep E w L) (hr : RdB L s l) (hb : l.length ≤ 1099511627776) :
    Calls Pr 153 #[.slice s.a s.len s.cap] w fun e w' => e = .returned (.tuple #[.int .i64 (((spanF l).2 : Nat) : Int), .int .i64 (spanF l).1]) ∧ ∃ C, Sep E w' (C ++ L) := by
  refine call153 ?_
  unfold ir153
  have hsz := hr.size
  have hcap := hr.cap
  have hm : (if (4 : Int) < ((s.len : Nat) : Int) then (4 : Int) else ((s.len : Nat) : Int)) = ((min 4 l.length : Nat) : Int) := by split <;> omega
  rw [hm]
  refine ⟨⟨by omega, by omega⟩, ?_⟩
  have hc := hr.cut (l := 0) (h := min 4 l.length) (m := s.cap) (by omega) (by omega) (by omega) (Nat.le_refl _)
  have hc' : RdB L ⟨cutAt s.a 0 s.cap 1, min 4 l.length - 0, s.cap - 0⟩ (l.take 4) := by
    have e : (l.drop 0).take (min 4 l.length - 0) = l.take 4 := by
      rw [List.drop_zero, Nat.sub_zero]
      rcases Nat.le_total 4 l.length with h | h
      · rw [Nat.min_eq_left h]
      · rw [Nat.min_eq_right h, List.take_length, List.take_of_length_le h]
    rw [e] at hc
    exact hc
  rw [Int.toNat_natCast]
  refine (k165 hS hc' (by simp; omega)).mono ?_
  rintro _ w1 ⟨s', C, hS1, h | h⟩
  · obtain ⟨h1, rfl⟩ := h
    have h1 : l.length < 4 := by simp at h1; omega
    refine ⟨0, SV.nil, 5, rfl, brc_true rfl ⟨?_, C, hS1⟩⟩
    simp [spanF, h1]
  · obtain ⟨h1, rfl, _⟩ := h
    have h1 : ¬ l.length < 4 := by simp at h1; omega
    have ht : (l.take 4).take 4 = l.take 4 := List.take_of_length_le (by simp; omega)
    rw [ht]
    have hv := beVal_lt 4 (l.take 4) (by simp; omega)
    generalize hn : beVal (l.take 4) = n at *
    have hw : IntKind.wrap .i64 ((n : Nat) : Int) = ((n : Nat) : Int) := w64 (by omega) (by omega)
    refine ⟨((n : Nat) : Int), s', 0, rfl, brc_false rfl (brc_intro (fun h2 => ?_) (fun h2 => ?_))⟩
    · have h2 : n > 4096 := by simp at h2; omega
      refine ⟨?_, C, hS1⟩
      simp [spanF, h1, hn, h2]
    · have h2 : ¬ n > 4096 := by simp at h2; omega
      rw [hw, w64 (n := 8 + ((n : Nat) : Int)) (by omega) (by omega), w64 (n := 4 + ((n : Nat) : Int)) (by omega) (by omega)]
      refine brc_intro (fun h3 => ?_) (fun h3 => ?_)
      · have h3 : l.length < 8 + n := by simp at h3; omega
        refine ⟨?_, C, hS1⟩
        simp [spanF, h1, hn, h2, h3]
      · have h3 : ¬ l.length < 8 + n := by simp at h3; omega
        refine ⟨?_, C, hS1⟩
        simp [spanF, h1, hn, h2, h3]

end Go.Proofs.Ytonjaaljnjjjcaa
