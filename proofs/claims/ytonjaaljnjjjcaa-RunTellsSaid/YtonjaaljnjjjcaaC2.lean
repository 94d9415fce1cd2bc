/- Contracts: sums of bytes, of the program and of the reference. Conditions: as each lemma says. -/
import Derived.Test.YtonjaaljnjjjcaaC1
set_option linter.unusedVariables false
set_option linter.unusedSimpArgs false
namespace Go.Proofs.Ytonjaaljnjjjcaa
open Go Go.RowKit

/-! ### The sum -/
def crcStep (c : Nat) : Nat := if c % 2 = 1 then (c / 2) ^^^ 2197175160 else c / 2
def crcIt : Nat → Nat → Nat
  | 0, c => c
  | n + 1, c => crcStep (crcIt n c)
def crcEntry (i : Nat) : Nat := crcIt 8 i
def crcOne (c : Nat) (b : UInt8) : Nat := crcEntry ((c ^^^ b.toNat) % 256) ^^^ (c / 256)
def crcSum (l : List UInt8) : Nat := 4294967295 ^^^ l.foldl crcOne (4294967295 ^^^ 0)

theorem xor_lt {x y : Nat} (hx : x < 4294967296) (hy : y < 4294967296) : x ^^^ y < 4294967296 := Nat.xor_lt_two_pow (n := 32) hx hy
theorem crcStep_lt {c : Nat} (h : c < 4294967296) : crcStep c < 4294967296 := by
  unfold crcStep
  split
  · exact xor_lt (by omega) (by omega)
  · omega
theorem crcIt_lt {c : Nat} (h : c < 4294967296) : ∀ n, crcIt n c < 4294967296
  | 0 => h
  | n + 1 => crcStep_lt (crcIt_lt h n)
theorem crcEntry_lt {c : Nat} (h : c < 4294967296) : crcEntry c < 4294967296 := crcIt_lt h 8
theorem crcOne_lt {c : Nat} (h : c < 4294967296) (b : UInt8) : crcOne c b < 4294967296 := xor_lt (crcIt_lt (by omega) 8) (by omega)
theorem crcFold_lt : ∀ (l : List UInt8) {c : Nat}, c < 4294967296 → l.foldl crcOne c < 4294967296
  | [], _, h => h
  | b :: l, _, h => crcFold_lt l (crcOne_lt h b)
theorem crcSum_lt (l : List UInt8) : crcSum l < 4294967296 := xor_lt (by omega) (crcFold_lt l (by decide))

/-! ### Whole numbers of a kind, as natural numbers -/
theorem wu32 {x : Nat} (h : x < 4294967296) : IntKind.wrap .u32 ((x : Nat) : Int) = ((x : Nat) : Int) := by rw [IntKind.wrap_u32]; omega
theorem wu8 (x : Nat) : IntKind.wrap .u8 ((x : Nat) : Int) = ((x % 256 : Nat) : Int) := by rw [IntKind.wrap_u8]; omega
theorem u32_xor {x y : Nat} (hx : x < 4294967296) (hy : y < 4294967296) :
    IntKind.wrap .u32 (((BitVec.ofInt (IntKind.bits .u32) ((x : Nat) : Int) ^^^ BitVec.ofInt (IntKind.bits .u32) ((y : Nat) : Int)).toNat : Nat) : Int) = ((x ^^^ y : Nat) : Int) := by
  change IntKind.wrap .u32 (((BitVec.ofInt 32 ((x : Nat) : Int) ^^^ BitVec.ofInt 32 ((y : Nat) : Int)).toNat : Nat) : Int) = _
  rw [BitVec.ofInt_natCast, BitVec.ofInt_natCast, BitVec.toNat_xor, BitVec.toNat_ofNat, BitVec.toNat_ofNat, Nat.mod_eq_of_lt hx, Nat.mod_eq_of_lt hy]
  exact wu32 (xor_lt hx hy)
theorem u8_xor {x y : Nat} (hx : x < 256) (hy : y < 256) :
    IntKind.wrap .u8 (((BitVec.ofInt (IntKind.bits .u8) ((x : Nat) : Int) ^^^ BitVec.ofInt (IntKind.bits .u8) ((y : Nat) : Int)).toNat : Nat) : Int) = ((x ^^^ y : Nat) : Int) := by
  change IntKind.wrap .u8 (((BitVec.ofInt 8 ((x : Nat) : Int) ^^^ BitVec.ofInt 8 ((y : Nat) : Int)).toNat : Nat) : Int) = _
  rw [BitVec.ofInt_natCast, BitVec.ofInt_natCast, BitVec.toNat_xor, BitVec.toNat_ofNat, BitVec.toNat_ofNat, Nat.mod_eq_of_lt hx, Nat.mod_eq_of_lt hy, wu8]
  have : x ^^^ y < 2 ^ 8 := Nat.xor_lt_two_pow hx hy
  rw [Nat.mod_eq_of_lt this]

theorem step_prog {c : Nat} (h : c < 4294967296) :
    IntKind.wrap .u32 (((BitVec.ofInt (IntKind.bits .u32) (Int.fdiv ((c : Nat) : Int) (2 ^ (min (Int.toNat 1) (IntKind.bits .u32)))) ^^^ BitVec.ofInt (IntKind.bits .u32) (IntKind.wrap .u32 ((BitVec.ofInt (IntKind.bits .u32) 2197175160 &&& BitVec.ofInt (IntKind.bits .u32) (IntKind.wrap .u32 (0 - (IntKind.wrap .u32 ((BitVec.ofInt (IntKind.bits .u32) ((c : Nat) : Int) &&& BitVec.ofInt (IntKind.bits .u32) 1).toNat))))).toNat))).toNat : Nat) : Int) = ((crcStep c : Nat) : Int) := by
  have h1 : (BitVec.ofInt (IntKind.bits .u32) ((c : Nat) : Int) &&& BitVec.ofInt (IntKind.bits .u32) 1).toNat = c % 2 := by
    change (BitVec.ofInt 32 ((c : Nat) : Int) &&& BitVec.ofInt 32 ((1 : Nat) : Int)).toNat = _
    rw [BitVec.ofInt_natCast, BitVec.ofInt_natCast, BitVec.toNat_and, BitVec.toNat_ofNat, BitVec.toNat_ofNat, Nat.mod_eq_of_lt h]
    exact Nat.and_one_is_mod c
  have h2 : Int.fdiv ((c : Nat) : Int) (2 ^ (min (Int.toNat 1) (IntKind.bits .u32))) = ((c / 2 : Nat) : Int) := by
    change Int.fdiv ((c : Nat) : Int) 2 = _
    rw [Int.fdiv_eq_ediv_of_nonneg _ (by omega)]
    omega
  rw [h1, h2, wu32 (x := c % 2) (by omega)]
  unfold crcStep
  split
  · rename_i hc
    rw [hc]
    have h3 : IntKind.wrap .u32 (((BitVec.ofInt (IntKind.bits .u32) 2197175160 &&& BitVec.ofInt (IntKind.bits .u32) (IntKind.wrap .u32 (0 - (((1 : Nat) : Nat) : Int)))).toNat : Nat) : Int) = ((2197175160 : Nat) : Int) := by kernel_rfl
    rw [h3]
    exact u32_xor (by omega) (by omega)
  · rename_i hc
    have hc : c % 2 = 0 := by omega
    rw [hc]
    have h3 : IntKind.wrap .u32 (((BitVec.ofInt (IntKind.bits .u32) 2197175160 &&& BitVec.ofInt (IntKind.bits .u32) (IntKind.wrap .u32 (0 - (((0 : Nat) : Nat) : Int)))).toNat : Nat) : Int) = ((0 : Nat) : Int) := by kernel_rfl
    rw [h3, u32_xor (by omega) (by omega), Nat.xor_zero]

/-! ### The program's table -/
def tabL (k : Nat) : List Value := (List.range 256).map fun i => if i < k then .int .u32 ((crcEntry i : Nat) : Int) else .int .u32 0

theorem tabL_len (k : Nat) : (tabL k).length = 256 := by simp [tabL]
theorem spl_one (cs : List Value) (o : Nat) (v : Value) (h : o < cs.length) : spl cs o [v] = cs.set o v := by
  unfold spl
  rw [List.set_eq_take_append_cons_drop, if_pos h]
  simp
theorem tabL_set (k : Nat) (h : k < 256) : spl (tabL k) k [.int .u32 ((crcEntry k : Nat) : Int)] = tabL (k + 1) := by
  rw [spl_one _ _ _ (by rw [tabL_len]; exact h)]
  apply List.ext_getElem
  · simp [tabL]
  · intro i h1 h2
    simp only [tabL, List.getElem_set, List.getElem_map, List.getElem_range]
    by_cases hi : k = i
    · subst hi; simp
    · rw [if_neg hi]
      by_cases h3 : i < k
      · rw [if_pos h3, if_pos (by omega)]
      · rw [if_neg h3, if_neg (by omega)]

set_option maxRecDepth 100000 in
theorem z234 : (Pr.info? 234).bind (·.zero) = some (.agg (tabL 0).toArray) := by kernel_rfl

theorem k181 {E w : World} {L : List Chunk} (hS : Sep E w L) : Calls Pr 181 #[] w fun e w' => e = .returned (.agg (tabL 256).toArray) ∧ ∃ C, Sep E w' (C ++ L) := by
  refine call181 ?_
  unfold ir181
  obtain ⟨b1, w1, h1, hS1⟩ := hS.alloc (t := 234) z234
  obtain ⟨b2, w2, h2, hS2⟩ := hS1.alloc (t := 234) z234
  refine ⟨_, w1, h1, _, w2, h2, ?_⟩
  refine ⟨fun n σ w3 => ∃ k : Nat, k ≤ 256 ∧ n = 256 - k ∧ σ = ((k : Int), ()) ∧ Sep E w3 ((b2, .cells (tabL k).toArray 234 (0, 0)) :: (b1, .cells (tabL 0).toArray 234 (0, 0)) :: L), 256, ⟨0, by omega, rfl, rfl, hS2⟩, ?_⟩
  rintro n σ w3 ⟨k, hk, rfl, rfl, hS3⟩ _
  dsimp only
  generalize hN : decide (((k : Nat) : Int) < (256 : Int)) = tN
  refine brc_intro (fun h => ?_) (fun h => ?_)
  · have h : k < 256 := by rw [← hN] at h; simp at h; omega
    refine ⟨fun n σ w4 => ∃ i : Nat, i ≤ 8 ∧ n = 8 - i ∧ σ = ((i : Int), ((crcIt i k : Nat) : Int), ()) ∧ w4 = w3, 8, ⟨0, by omega, rfl, ?_, rfl⟩, ?_⟩
    · rw [wu32 (by omega)]
      rfl
    rintro n σ w4 ⟨i, hi, rfl, rfl, rfl⟩ _
    dsimp only
    refine brc_intro (fun h' => ?_) (fun h' => ?_)
    · have h' : i < 8 := by simp at h'; omega
      refine ⟨by omega, 8 - (i + 1), by omega, i + 1, by omega, rfl, ?_, rfl⟩
      rw [step_prog (crcIt_lt (by omega) i), w64 (by omega) (by omega)]
      rfl
    · have h' : i = 8 := by simp at h'; omega
      subst h'
      refine ⟨⟨by omega, by omega⟩, ?_⟩
      obtain ⟨w5, h5, hS5⟩ := hS3.store (o := k) (n := 1) (v := .int .u32 ((crcIt 8 k : Nat) : Int)) (t := 206) (by kernel_rfl) rfl (by rw [tabL_len]; omega) (by simp [Value.cells, Value.oneCell'])
      refine ⟨w5, by rw [addr_add]; simpa using h5, 256 - (k + 1), by omega, k + 1, by omega, rfl, ?_, ?_⟩
      · rw [w64 (by omega) (by omega)]
        rfl
      · rw [← tabL_set k h]
        exact hS5
  · have h : k = 256 := by rw [← hN] at h; simp at h; omega
    clear hN
    subst h
    refine ⟨_, hS3.loadS (o := 0) (n := 256) (vs := tabL 256) List.mem_cons_self (by kernel_rfl) (by kernel_rfl) (by rw [List.drop_zero]; exact List.take_of_length_le (by rw [tabL_len]; omega)) (by simp [tabL_len]), ?_⟩
    have hS4 : Sep E w3 ((b1, .cells (tabL 0).toArray 234 (0, 0)) :: (b2, .cells (tabL 256).toArray 234 (0, 0)) :: L) := hS3.weak (by intro f; simp only [ms_append, ms_cons, ms_nil]; omega)
    obtain ⟨w5, h5, hS5⟩ := hS4.store (o := 0) (n := 256) (v := .agg (tabL 256).toArray) (t := 234) (by kernel_rfl) (by simp [Value.cells, tabL_len]) (by rw [tabL_len]; omega) (by
      intro u hu
      simp only [Value.cells, tabL, List.mem_map] at hu
      obtain ⟨i, _, rfl⟩ := hu
      split <;> rfl)
    refine ⟨w5, h5, ?_⟩
    have hsp : spl (tabL 0) 0 (Value.agg (tabL 256).toArray).cells.toList = tabL 256 := by
      simp only [spl, Value.cells, List.take_zero, List.nil_append, Nat.zero_add]
      rw [List.drop_of_length_le (by rw [tabL_len, tabL_len]; omega), List.append_nil]
    rw [hsp] at hS5
    refine ⟨_, hS5.loadS (o := 0) (n := 256) (vs := tabL 256) List.mem_cons_self (by kernel_rfl) (by kernel_rfl) (by rw [List.drop_zero]; exact List.take_of_length_le (by rw [tabL_len]; omega)) (by simp [tabL_len]), rfl, [_, _], hS5⟩

end Go.Proofs.Ytonjaaljnjjjcaa
