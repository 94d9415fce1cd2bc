/- Frames, taken. Conditions: as each lemma says. -/
import Derived.Test.YtonjaaljnjjjcaaK6
set_option linter.unusedVariables false
set_option linter.unusedSimpArgs false
namespace Go.Proofs.Ytonjaaljnjjjcaa
open Go Go.RowKit

/-- vary.Unfix of four bytes. -/
theorem k165 {E w : World} {L : List Chunk} {s : SV} {l : List UInt8} (hS : Sep E w L) (hr : RdB L s l) (hb : l.length ≤ 1099511627776) :
    Calls Pr 165 #[.slice s.a s.len s.cap, .int .i64 4] w fun e w' => ∃ (s' : SV) (C : List Chunk), Sep E w' (C ++ L) ∧
      ((l.length < 4 ∧ e = .returned (.tuple #[.int .u64 0, .slice none 0 0, .int .i64 5])) ∨ (4 ≤ l.length ∧ e = .returned (.tuple #[.int .u64 ((beVal (l.take 4) : Nat) : Int), .slice s'.a s'.len s'.cap, .int .i64 0]) ∧ RdB C s' (l.drop 4))) := by
  refine call165 ?_
  unfold ir165
  have hsz := hr.size
  have hcap := hr.cap
  refine brc_false (by decide) (brc_false (by decide) (brc_intro (fun h => ?_) (fun h => ?_)))
  · have h : l.length < 4 := by simp at h; omega
    exact ⟨SV.nil, [], hS, .inl ⟨h, rfl⟩⟩
  have h4 : 4 ≤ l.length := by simp at h; omega
  refine ⟨⟨by omega, by omega⟩, ?_⟩
  have hcut := hr.cut (l := 0) (h := 4) (m := s.cap) (by omega) (by omega) (by omega) (Nat.le_refl _)
  have hlen4 : (l.take 4).length = 4 := by simp; omega
  refine ⟨fun n σ w1 => ∃ k : Nat, k ≤ 4 ∧ n = 4 - k ∧ σ = ((k : Int), ((beVal ((l.take 4).take k) : Nat) : Int), ()) ∧ w1 = w, 4, ⟨0, by omega, rfl, rfl, rfl⟩, ?_⟩
  rintro n σ w1 ⟨k, hk, rfl, rfl, rfl⟩ _
  dsimp only
  have e4 : Int.toNat (4 : Int) - 0 = 4 := rfl
  rw [e4]
  refine brc_intro (fun h => ?_) (fun h => ?_)
  · have h : k < 4 := by simp at h; omega
    have hv : (l.take 4)[k]? = some (l.take 4)[k] := List.getElem?_eq_getElem (by omega)
    obtain ⟨a, ha, hat⟩ := RdS.idxU hcut (i := k) (v := byteV (l.take 4)[k]) (by
      simp only [Nat.zero_mul, List.drop_zero, Nat.mul_one, Nat.sub_zero]
      rw [List.getElem?_map, hv]
      rfl) (t := 5) (by kernel_rfl)
    refine ⟨⟨by omega, by omega⟩, ?_⟩
    simp only at ha
    rw [ha]
    refine ⟨(((l.take 4)[k].toNat : Nat) : Int), hat hS fun c hc => hc, by omega, 4 - (k + 1), by omega, k + 1, by omega, rfl, ?_, rfl⟩
    have hlt := beVal_lt 3 ((l.take 4).take k) (by simp; omega)
    rw [or_prog (by omega), w64 (by omega) (by omega)]
    have ht : (l.take 4).take (k + 1) = (l.take 4).take k ++ [(l.take 4)[k]] := by rw [List.take_add_one, hv]; rfl
    rw [ht, beVal_snoc]
    rfl
  · have h : k = 4 := by simp at h; omega
    subst h
    refine ⟨⟨by omega, by omega⟩, ?_⟩
    have hd := hr.cut (l := 4) (h := s.len) (m := s.cap) (by omega) (Nat.le_refl _) hcap (Nat.le_refl _)
    have hd' : RdB L ⟨cutAt s.a 4 s.cap 1, s.len - 4, s.cap - 4⟩ (l.drop 4) := by
      rw [List.take_of_length_le (by simp; omega)] at hd
      exact hd
    refine (k88 hS hd' (by simp; omega)).mono ?_
    rintro _ w2 ⟨s2, C, rfl, ho, hS2⟩
    refine ⟨s2, rfl, s2, C, hS2, .inr ⟨h4, ?_, ho.rds⟩⟩
    rw [List.take_of_length_le (by omega)]

end Go.Proofs.Ytonjaaljnjjjcaa
