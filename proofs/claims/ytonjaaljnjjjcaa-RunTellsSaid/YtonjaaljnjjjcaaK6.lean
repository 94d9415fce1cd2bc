/- Numbers out of bytes, and bytes held against bytes. Conditions: as each lemma says. -/
import Derived.Test.YtonjaaljnjjjcaaK5
set_option linter.unusedVariables false
set_option linter.unusedSimpArgs false
namespace Go.Proofs.Ytonjaaljnjjjcaa
open Go Go.RowKit

/-- A number out of bytes, the highest first. -/
def beVal (l : List UInt8) : Nat := l.foldl (fun n b => n * 256 + b.toNat) 0

theorem beVal_snoc (l : List UInt8) (b : UInt8) : beVal (l ++ [b]) = beVal l * 256 + b.toNat := by simp [beVal]
theorem beVal_lt : ∀ (k : Nat) (l : List UInt8), l.length ≤ k → beVal l < 256 ^ k := by
  intro k
  induction k with
  | zero =>
    intro l h
    have : l = [] := List.eq_nil_of_length_eq_zero (by omega)
    subst this
    decide
  | succ k ih =>
    intro l h
    rcases List.eq_nil_or_concat l with rfl | ⟨l', b, rfl⟩
    · exact Nat.pow_pos (by decide)
    · rw [List.concat_eq_append, beVal_snoc]
      have h1 := ih l' (by simp at h; omega)
      have h2 := b.toNat_lt
      rw [Nat.pow_succ]
      omega

theorem or_prog {n : Nat} (h : n < 72057594037927936) (b : UInt8) :
    IntKind.wrap .u64 (((BitVec.ofInt (IntKind.bits .u64) (IntKind.wrap .u64 (((n : Nat) : Int) * 2 ^ (min (Int.toNat 8) (IntKind.bits .u64)))) ||| BitVec.ofInt (IntKind.bits .u64) (IntKind.wrap .u64 ((b.toNat : Nat) : Int))).toNat : Nat) : Int) = ((n * 256 + b.toNat : Nat) : Int) := by
  have hb := b.toNat_lt
  have e1 : IntKind.wrap .u64 (((n : Nat) : Int) * 2 ^ (min (Int.toNat 8) (IntKind.bits .u64))) = ((n * 256 : Nat) : Int) := by
    change IntKind.wrap .u64 (((n : Nat) : Int) * 256) = _
    rw [IntKind.wrap_u64]
    omega
  have e2 : IntKind.wrap .u64 ((b.toNat : Nat) : Int) = ((b.toNat : Nat) : Int) := by
    rw [IntKind.wrap_u64]
    omega
  rw [e1, e2]
  change IntKind.wrap .u64 (((BitVec.ofInt 64 ((n * 256 : Nat) : Int) ||| BitVec.ofInt 64 ((b.toNat : Nat) : Int)).toNat : Nat) : Int) = _
  rw [BitVec.ofInt_natCast, BitVec.ofInt_natCast, BitVec.toNat_or, BitVec.toNat_ofNat, BitVec.toNat_ofNat, Nat.mod_eq_of_lt (by omega), Nat.mod_eq_of_lt (by omega)]
  have h3 : n * 256 ||| b.toNat = n * 256 + b.toNat := by
    have := Nat.two_pow_add_eq_or_of_lt (i := 8) (b := b.toNat) hb n
    rw [Nat.mul_comm n 256]
    exact this.symm
  rw [h3, IntKind.wrap_u64]
  omega

/-- slices.Equal of bytes. -/
theorem k166 {E w : World} {L : List Chunk} {x y : SV} {la lb : List UInt8} (hS : Sep E w L) (ha : RdB L x la) (hb : RdB L y lb) (hn : la.length ≤ 1000000000000000000) :
    Calls Pr 166 #[.slice x.a x.len x.cap, .slice y.a y.len y.cap] w fun e w' => e = .returned (.bool (decide (la = lb))) ∧ Sep E w' L := by
  refine call166 ?_
  unfold ir166
  have hx := ha.size
  have hy := hb.size
  refine brc_intro (fun h => ?_) (fun h => ?_)
  · have h : la.length ≠ lb.length := by simp at h; omega
    exact ⟨by rw [decide_eq_false fun e => h (by rw [e])], hS⟩
  have hl : la.length = lb.length := by simp at h; omega
  refine ⟨fun n σ w1 => ∃ k : Nat, k ≤ la.length ∧ n = la.length - k ∧ σ = ((k : Int), ()) ∧ la.take k = lb.take k ∧ Sep E w1 L, la.length, ⟨0, Nat.zero_le _, rfl, rfl, by simp, hS⟩, ?_⟩
  rintro n σ w1 ⟨k, hk, rfl, rfl, ht, hS1⟩ _
  dsimp only
  refine brc_intro (fun h => ?_) (fun h => ?_)
  · have h : k < la.length := by simp at h; omega
    have hk2 : k < lb.length := by omega
    obtain ⟨a1, e1, hat1⟩ := RdS.idxU ha (i := k) (v := byteV la[k]) (by simp [h]) (t := 5) (by kernel_rfl)
    obtain ⟨a2, e2, hat2⟩ := RdS.idxU hb (i := k) (v := byteV lb[k]) (by simp [hk2]) (t := 5) (by kernel_rfl)
    refine ⟨fun w => Sep E w L, hS1.drew, ⟨by omega, by omega⟩, ?_⟩
    rw [e1]
    refine ⟨((la[k].toNat : Nat) : Int), fun w hw => hat1 hw fun c hc => hc, ⟨by omega, by omega⟩, ?_⟩
    rw [e2]
    refine ⟨((lb[k].toNat : Nat) : Int), fun w hw => hat2 hw fun c hc => hc, brc_intro (fun h2 => ?_) (fun h2 => ?_)⟩
    · have h2 : la[k] ≠ lb[k] := fun e => by rw [e] at h2; simp at h2
      exact ⟨by rw [decide_eq_false fun e => h2 (by subst e; rfl)], hS1.drew⟩
    · have h2 : la[k] = lb[k] := by
        have : la[k].toNat = lb[k].toNat := by simp at h2; omega
        exact UInt8.toNat_inj.1 this
      refine ⟨la.length - (k + 1), by omega, k + 1, by omega, rfl, by rw [w64 (by omega) (by omega)]; rfl, ?_, hS1.drew⟩
      rw [List.take_add_one, List.take_add_one, ht, List.getElem?_eq_getElem h, List.getElem?_eq_getElem hk2, h2]
  · have h : k = la.length := by simp at h; omega
    subst h
    rw [List.take_length, hl, List.take_length] at ht
    exact ⟨by rw [decide_eq_true ht], hS1⟩

end Go.Proofs.Ytonjaaljnjjjcaa
