/- Lists of lists of bytes: Same, rise. Conditions: as each lemma says. -/
import Derived.Test.YtonjaaljnjjjcaaK1
set_option linter.unusedVariables false
set_option linter.unusedSimpArgs false
namespace Go.Proofs.Ytonjaaljnjjjcaa
open Go Go.RowKit

theorem str_eq (l m : List UInt8) : (ByteArray.toList (strOf l) == ByteArray.toList (strOf m)) = decide (l = m) := by
  rw [ba_eq_toList, decide_eq_decide]
  exact strOf_inj

/-- creelref03.Same. -/
theorem k30 {E w : World} {L : List Chunk} {x y : SV} {la lb : List (List UInt8)} (hS : Sep E w L) (ha : RdL L x la) (hb : RdL L y lb) (hn : la.length ≤ 1000000000000000000) :
    Calls Pr 30 #[.slice x.a x.len x.cap, .slice y.a y.len y.cap] w fun e w' => e = .returned (.bool (decide (la = lb))) ∧ Sep E w' L := by
  refine call30 ?_
  unfold ir30
  have hx := ha.size
  have hy := hb.size
  refine brc_intro (fun h => ?_) (fun h => ?_)
  · have h : la.length ≠ lb.length := by simp at h; omega
    exact ⟨by rw [decide_eq_false fun e => h (by rw [e])], hS⟩
  have hl : la.length = lb.length := by simp at h; omega
  refine ⟨fun n σ w1 => ∃ k : Nat, k ≤ la.length ∧ n = la.length - k ∧ σ = ((k : Int), ()) ∧ la.take k = lb.take k ∧ Sep E w1 L, la.length, ⟨0, Nat.zero_le _, rfl, rfl, by simp, hS⟩, ?_⟩
  rintro n σ w1 ⟨k, hk, rfl, rfl, ht, hS1⟩ _
  dsimp only
  refine brc_intro (fun h => ?_) (fun h => ?_)
  · have h : k < la.length := by simp at h; omega
    have hk2 : k < lb.length := by omega
    refine ⟨fun w => Sep E w L, hS1.drew, ⟨by omega, by omega⟩, ?_⟩
    obtain ⟨a1, s1, e1, hr1, hat1⟩ := ha.idxU h
    obtain ⟨a2, s2, e2, hr2, hat2⟩ := hb.idxU hk2
    rw [e1]
    refine ⟨s1, fun w hw => hat1 hw fun c hc => hc, _, fun w hw => hw.toStr hr1 (fun c hc => hc) (by kernel_rfl) (by kernel_rfl), ⟨by omega, by omega⟩, ?_⟩
    rw [e2]
    refine ⟨s2, fun w hw => hat2 hw fun c hc => hc, _, fun w hw => hw.toStr hr2 (fun c hc => hc) (by kernel_rfl) (by kernel_rfl), ?_⟩
    rw [str_eq]
    refine brc_intro (fun h2 => ?_) (fun h2 => ?_)
    · have h2 : la[k] ≠ lb[k] := by simpa using h2
      exact ⟨by rw [decide_eq_false fun e => h2 (by subst e; rfl)], hS1.drew⟩
    · have h2 : la[k] = lb[k] := by simpa using h2
      refine ⟨la.length - (k + 1), by omega, k + 1, by omega, rfl, by rw [w64 (by omega) (by omega)]; rfl, ?_, hS1.drew⟩
      rw [List.take_add_one, List.take_add_one, ht, List.getElem?_eq_getElem h, List.getElem?_eq_getElem hk2, h2]
  · have h : k = la.length := by simp at h; omega
    subst h
    rw [List.take_length, hl, List.take_length] at ht
    exact ⟨by rw [decide_eq_true ht], hS1⟩

end Go.Proofs.Ytonjaaljnjjjcaa
