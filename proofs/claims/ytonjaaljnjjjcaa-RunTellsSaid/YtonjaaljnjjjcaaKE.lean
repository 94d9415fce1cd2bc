/- A run that was put is read back, in plain Lean. No program in sight. -/
import Derived.Test.YtonjaaljnjjjcaaKD
set_option linter.unusedVariables false
set_option linter.unusedSimpArgs false
namespace Go.Proofs.Ytonjaaljnjjjcaa
open Go

/-! ### Frames -/
theorem beVal_bigE (n : Nat) : ∀ k, beVal (bigE n k) = n % 256 ^ k
  | 0 => by simp [bigE, beVal, Nat.mod_one]
  | k + 1 => by
    have key : ∀ (l : List UInt8) (a : Nat), l.foldl (fun n b => n * 256 + b.toNat) a = a * 256 ^ l.length + beVal l := by
      intro l
      induction l with
      | nil => intro a; simp [beVal]
      | cons b l ih =>
        intro a
        have h1 := ih (a * 256 + b.toNat)
        have h2 := ih (0 * 256 + b.toNat)
        simp only [beVal, List.foldl_cons, List.length_cons] at *
        rw [h1, h2, Nat.pow_succ]
        rw [Nat.add_mul]
        simp only [Nat.zero_mul, Nat.zero_add]
        rw [Nat.mul_assoc, Nat.mul_comm 256, Nat.add_assoc]
    have h := key (bigE n k) (0 * 256 + (UInt8.ofNat (n / 256 ^ k)).toNat)
    have e : beVal (bigE n (k + 1)) = (UInt8.ofNat (n / 256 ^ k)).toNat * 256 ^ k + beVal (bigE n k) := by
      simp only [bigE, beVal, List.foldl_cons]
      rw [h, bigE_len]
      simp [beVal]
    have hm : n % 256 ^ (k + 1) = n % 256 ^ k + 256 ^ k * (n / 256 ^ k % 256) := by
      rw [Nat.pow_succ]
      exact Nat.mod_mul
    rw [e, beVal_bigE n k, UInt8.toNat_ofNat', hm, Nat.mul_comm (256 ^ k)]
    exact Nat.add_comm _ _

theorem takeF_frame {x rest : List UInt8} (hx : x.length ≤ 4096) : takeF (frameL x ++ rest) = (0, x, x.length + 8) := by
  have hb : (bigE x.length 4).length = 4 := bigE_len _ _
  have hfl := frameL_len x
  have hf : frameL x = bigE x.length 4 ++ (x ++ le4 (crcSum (bigE x.length 4 ++ x))) := by
    unfold frameL sealL
    rw [List.append_assoc]
  have h4 : (frameL x ++ rest).take 4 = bigE x.length 4 := by
    rw [hf, List.append_assoc, List.take_append_of_le_length (by omega), List.take_of_length_le (by omega)]
  have hv : beVal (bigE x.length 4) = x.length := by
    rw [beVal_bigE, Nat.mod_eq_of_lt]
    have : (256 : Nat) ^ 4 = 4294967296 := by decide
    omega
  have hs : spanF (frameL x ++ rest) = (0, 4 + x.length) := by
    unfold spanF
    rw [h4, hv, if_neg (by simp [hfl]; omega), if_neg (by omega), if_neg (by simp [hfl]; omega)]
  unfold takeF
  rw [hs]
  have ht : (frameL x ++ rest).take (4 + x.length + 4) = frameL x := by
    rw [List.take_append_of_le_length (by omega), List.take_of_length_le (by omega)]
  have hseal : sealedF (frameL x) = true := by
    unfold sealedF
    rw [decide_eq_true_eq]
    have e : (frameL x).take ((frameL x).length - 4) = bigE x.length 4 ++ x := by
      rw [hfl]
      unfold frameL sealL
      rw [List.take_append_of_le_length (by simp [hb]; omega), List.take_of_length_le (by simp [hb]; omega)]
    rw [e]
    rfl
  rw [if_neg (by simp), ht, hseal, if_neg (by simp)]
  have e2 : (frameL x ++ rest).take (4 + x.length) = bigE x.length 4 ++ x := by
    rw [hf, ← List.append_assoc, List.append_assoc, List.take_append_of_le_length (by simp [hb]), List.take_of_length_le (by simp [hb])]
  simp only [e2]
  rw [List.drop_append_of_le_length (by omega), List.drop_of_length_le (by omega)]
  simp
  omega

theorem compare_lt : ∀ (l m : List UInt8), decide (Lib.compareBytes l m < 0) = Op.bytesLess l m
  | [], [] => rfl
  | [], _ :: _ => rfl
  | _ :: _, [] => rfl
  | a :: l, b :: m => by
    have ih := compare_lt l m
    unfold Lib.compareBytes Op.bytesLess
    by_cases h1 : a < b
    · simp [h1]
    · by_cases h2 : b < a
      · have h3 : ¬ a = b := fun e => by subst e; exact h1 h2
        simp [h1, h2, h3]
      · have h3 : a = b := by
          apply UInt8.toNat_inj.1
          have h1' : ¬ a.toNat < b.toNat := fun h => h1 (UInt8.lt_iff_toNat_lt.2 h)
          have h2' : ¬ b.toNat < a.toNat := fun h => h2 (UInt8.lt_iff_toNat_lt.2 h)
          omega
        subst h3
        simp [h1, ih]

theorem rises_some (l x : List UInt8) : rises (some l) x = Op.bytesLess l x := compare_lt l x

/-! ### Records -/
theorem runL_cons (x : List UInt8) (ls : List (List UInt8)) : runL (x :: ls) = frameL x ++ runL ls := rfl
theorem runL_snoc (x : List UInt8) (ls : List (List UInt8)) : runL (ls ++ [x]) = runL ls ++ frameL x := by simp [runL]

theorem recs_runL : ∀ (ls : List (List UInt8)) (o : Option (List UInt8)), (∀ l ∈ ls, l.length ≤ 64) → Rising ls → (∀ l, o = some l → ∀ x ∈ ls, Op.bytesLess l x = true) → recsR ⟨runL ls, o, false⟩ = ls.map fun x => (x, (0 : Int))
  | [], o, _, _, _ => by
    rw [recsR_eq]
    rfl
  | x :: ls, o, h64, hr, ho => by
    have hx := h64 x List.mem_cons_self
    have hr' := List.pairwise_cons.1 hr
    have ht := takeF_frame (x := x) (rest := runL ls) (by omega)
    have hne : frameL x ++ runL ls ≠ [] := fun e => by
      have := congrArg List.length e
      simp [frameL_len] at this
    have hris : rises o x = true := by
      cases o with
      | none => rfl
      | some l => rw [rises_some]; exact ho l rfl x List.mem_cons_self
    have hn : MRd.next ⟨runL (x :: ls), o, false⟩ = ((x, true, 0), ⟨runL ls, some x, false⟩) := by
      unfold MRd.next
      have hd : (frameL x ++ runL ls).drop (x.length + 8) = runL ls := by
        rw [List.drop_append_of_le_length (by rw [frameL_len]; omega), List.drop_of_length_le (by rw [frameL_len]; omega)]
        rfl
      simp only [runL_cons, hne, if_false, Bool.false_eq_true, ht, hx, hris, and_self, if_true, hd]
    rw [recsR_eq, hn]
    simp only [recsF, if_true, List.map_cons]
    rw [recs_runL ls (some x) (fun l hl => h64 l (List.mem_cons_of_mem _ hl)) hr'.2 fun l hl y hy => by
      simp only [Option.some.injEq] at hl
      subst hl
      exact hr'.1 y hy]

/-! ### Lists that rise -/
theorem riseFold_inv : ∀ (l out : List (List UInt8)), Rising out → (∀ x ∈ out, x.length ≤ 64) → Rising (l.foldl riseStep out) ∧ ∀ x ∈ l.foldl riseStep out, x.length ≤ 64
  | [], _, h1, h2 => ⟨h1, h2⟩
  | b :: l, out, h1, h2 => by
    rw [List.foldl_cons]
    refine riseFold_inv l _ ?_ ?_
    · unfold riseStep
      split
      · exact h1
      · exact insB_rising b h1
    · unfold riseStep
      split
      · exact h2
      · intro x hx
        rcases insB_mem b out x hx with rfl | hx
        · omega
        · exact h2 x hx
theorem riseL_eq (ls : List (List UInt8)) : riseL ls = (fewL ls).foldl riseStep [] := rfl
theorem riseL_rising (ls : List (List UInt8)) : Rising (riseL ls) := (riseFold_inv (fewL ls) [] List.Pairwise.nil (by simp)).1
theorem riseL_64 (ls : List (List UInt8)) : ∀ x ∈ riseL ls, x.length ≤ 64 := (riseFold_inv (fewL ls) [] List.Pairwise.nil (by simp)).2
theorem riseL_len (ls : List (List UInt8)) : (riseL ls).length ≤ 60 := Nat.le_trans (riseFold_len _ _) (by have := fewL_len ls; simp; omega)

/-! ### A disk on which a run is put -/
/-- A disk with the one file on the way. -/
def wayM (room : Nat) (b : List UInt8) : MDisk := ⟨[⟨b, 0⟩], [(way, 0)], [], [⟨noName, way, 0⟩], room, false, false, 0⟩
def endWay (room : Nat) (n : ByteArray) (b : List UInt8) : MDisk := ⟨[⟨b, b.length⟩], [(n, 0)], [(n, 0)], [], room, false, false, 0⟩

theorem start_new (room : Nat) : startM (MDisk.new room) = (0, wayM room []) := rfl

theorem wayM_used (room : Nat) (b : List UInt8) : (wayM room b).used = b.length := by
  show (if _ then _ else 0) + 0 = _
  rw [if_pos (by rfl)]
  rfl
theorem wayM_append {room : Nat} {b c : List UInt8} (h : b.length + c.length ≤ room) : (wayM room b).append way c = (0, wayM room (b ++ c)) := by
  have hf : (wayM room b).find way = (0, some 0, wayM room b) := rfl
  unfold MDisk.append
  rw [hf]
  simp only [wayM_used]
  rw [if_neg (by show ¬ _ > room; omega)]
  rfl
theorem wayM_add {room : Nat} {ls : List (List UInt8)} {x : List UInt8} {o : Option (List UInt8)} (hx : x.length ≤ 64) (ho : rises o x = true) (h : (runL ls).length + 72 ≤ room) : addM (wayM room (runL ls)) o x = (0, wayM room (runL (ls ++ [x])), some x) := by
  unfold addM
  rw [if_neg (by omega), if_neg (by simp [ho]), wayM_append (by rw [frameL_len]; omega), runL_snoc]
  rfl
theorem wayM_end {room : Nat} {b : List UInt8} {n : ByteArray} (h1 : n ≠ way) (h2 : n ≠ noName) (h3 : n.size ≤ 32) (hr : MDisk.right n = true) : endM (wayM room b) n = (0, endWay room n b) := by
  have hf : (wayM room b).find way = (0, some 0, wayM room b) := rfl
  have hs : (wayM room b).sync way = (0, ⟨[⟨b, b.length⟩], [(way, 0)], [], [⟨noName, way, 0⟩], room, false, false, 0⟩) := by
    unfold MDisk.sync
    rw [hf]
    rfl
  have hrn : (MDisk.mk [⟨b, b.length⟩] [(way, 0)] [] [⟨noName, way, 0⟩] room false false 0).rename way n = (0, ⟨[⟨b, b.length⟩], [(n, 0)], [], [⟨noName, way, 0⟩, ⟨way, n, 0⟩], room, false, false, 0⟩) := by
    have hf2 : (MDisk.mk [⟨b, b.length⟩] [(way, 0)] [] [⟨noName, way, 0⟩] room false false 0).find way = (0, some 0, MDisk.mk [⟨b, b.length⟩] [(way, 0)] [] [⟨noName, way, 0⟩] room false false 0) := rfl
    unfold MDisk.rename
    rw [hf2]
    have hd : doN [(way, 0)] ⟨way, n, 0⟩ = [(n, 0)] := by
      unfold doN
      rw [if_neg h2]
      show insN n 0 (delN n (delN way [(way, 0)])) = _
      have : delN way [(way, 0)] = [] := by simp [delN]
      rw [this]
      rfl
    simp only [hr, Bool.true_eq_false, if_false, MDisk.chg, hd]
    rfl
  unfold endM
  rw [if_neg (by rintro (h | h | h) <;> first | exact h1 h | exact h2 h | omega), hs, if_neg (by simp), hrn, if_neg (by simp)]
  rfl

theorem endWay_read (room : Nat) (n : ByteArray) (b : List UInt8) : (endWay room n b).read n = (0, b, endWay room n b) := by
  have hf : (endWay room n b).find n = (0, some 0, endWay room n b) := by
    have hfn : findN n (endWay room n b).now = some 0 := by simp [findN, endWay]
    unfold MDisk.find
    rw [if_neg (by show ¬ (0 : Int) ≠ 0; simp)]
    show (match findN n (endWay room n b).now with | none => _ | some i => _) = _
    rw [hfn]
    rfl
  unfold MDisk.read
  rw [hf]
  rfl
theorem wayM_fit (room : Nat) (b : List UInt8) : (wayM room b).Fit (b.length + 2) := ⟨by simp [wayM], by simp [MDisk.total, ms, wayM], by simp [wayM]⟩
theorem endWay_fit (room : Nat) (n : ByteArray) (b : List UInt8) : (endWay room n b).Fit (b.length + 2) := ⟨by simp [endWay], by simp [MDisk.total, ms, endWay], by simp [endWay]⟩

end Go.Proofs.Ytonjaaljnjjjcaa
