/- The program's disk: Used, Append. Conditions: as each lemma says. -/
import Derived.Lib.AppendZeros
import Derived.Laws.CopyRow
import Derived.Laws.Externs
import Derived.Test.YtonjaaljnjjjcaaQP2
/- A disk in plain Lean, its files in another order, but those that nobody can reach: what it tells. No program in sight. -/
set_option linter.unusedVariables false
set_option linter.unusedSimpArgs false
namespace Go.Proofs.Ytonjaaljnjjjcaa
open Go

def ren (ord : List Nat) (x : ByteArray × Nat) : ByteArray × Nat := (x.1, ord.idxOf x.2)
def renC (ord : List Nat) (c : MChange) : MChange := ⟨c.gone, c.new, if c.new = noName then c.file else ord.idxOf c.file⟩
def MDisk.renum (M : MDisk) (ord : List Nat) : MDisk := { M with files := ord.map M.fileAt, now := M.now.map (ren ord), kept := M.kept.map (ren ord), changes := M.changes.map (renC ord) }

/-- What can be reached is among these. -/
structure Covers (M : MDisk) (ord : List Nat) : Prop where
  nodup : ord.Nodup
  lt : ∀ i ∈ ord, i < M.files.length
  now : ∀ x ∈ M.now, x.2 ∈ ord
  kept : ∀ x ∈ M.kept, x.2 ∈ ord
  chs : ∀ c ∈ M.changes, c.new ≠ noName → c.file ∈ ord

theorem findN_ren (ord : List Nat) (k : ByteArray) : ∀ nm : Names, findN k (nm.map (ren ord)) = (findN k nm).map ord.idxOf
  | [] => rfl
  | x :: nm => by
    rw [List.map_cons]
    unfold findN
    rw [findN_ren ord k nm]
    show (if x.1 = k then _ else _) = _
    split <;> rfl
theorem delN_ren (ord : List Nat) (k : ByteArray) : ∀ nm : Names, delN k (nm.map (ren ord)) = (delN k nm).map (ren ord)
  | [] => rfl
  | x :: nm => by
    rw [List.map_cons]
    unfold delN
    rw [delN_ren ord k nm]
    show (if x.1 = k then _ else _) = _
    split <;> rfl
theorem insN_ren (ord : List Nat) (k : ByteArray) (f : Nat) : ∀ nm : Names, insN k (ord.idxOf f) (nm.map (ren ord)) = (insN k f nm).map (ren ord)
  | [] => rfl
  | x :: nm => by
    rw [List.map_cons]
    unfold insN
    rw [insN_ren ord k f nm]
    show (if nlt k x.1 then _ else _) = _
    split <;> rfl
theorem doN_ren (ord : List Nat) (nm : Names) (c : MChange) : doN (nm.map (ren ord)) (renC ord c) = (doN nm c).map (ren ord) := by
  unfold doN renC
  by_cases h : c.new = noName
  · simp only [h, if_true, delN_ren]
  · simp only [h, if_false, delN_ren, insN_ren]
theorem foldl_ren (ord : List Nat) : ∀ (l : List MChange) (nm : Names), (l.map (renC ord)).foldl doN (nm.map (ren ord)) = (l.foldl doN nm).map (ren ord)
  | [], _ => rfl
  | c :: l, nm => by
    rw [List.map_cons, List.foldl_cons, List.foldl_cons, doN_ren, foldl_ren ord l]
theorem numbered_ren (ord : List Nat) : ∀ (nm : Names) (i : Nat), MDisk.numbered i (nm.map (ren ord)) = MDisk.numbered i nm
  | [], _ => rfl
  | x :: nm, i => by
    rw [List.map_cons]
    unfold MDisk.numbered
    rw [numbered_ren ord nm (i + 1)]
    rfl

theorem doN_P {P : Nat → Prop} {nm : Names} (h : ∀ x ∈ nm, P x.2) {c : MChange} (hc : c.new ≠ noName → P c.file) : ∀ x ∈ doN nm c, P x.2 := by
  unfold doN
  split
  · exact fun x hx => h x (delN_mem hx)
  · rename_i hn
    intro x hx
    rcases (insN_mem _ _ _ _).1 hx with rfl | hx
    · exact hc hn
    · exact h x (delN_mem (delN_mem hx))
theorem foldl_P {P : Nat → Prop} : ∀ (l : List MChange) {nm : Names}, (∀ x ∈ nm, P x.2) → (∀ c ∈ l, c.new ≠ noName → P c.file) → ∀ x ∈ l.foldl doN nm, P x.2
  | [], _, h, _ => h
  | c :: l, _, h, hc => foldl_P l (doN_P h (hc c List.mem_cons_self)) fun c' hc' => hc c' (List.mem_cons_of_mem _ hc')

theorem fileAt_ren {M : MDisk} {ord : List Nat} {i : Nat} (h : i ∈ ord) : (M.renum ord).fileAt (ord.idxOf i) = M.fileAt i := by
  have hl := List.idxOf_lt_length_iff.2 h
  show (ord.map M.fileAt).getD (ord.idxOf i) ⟨[], 0⟩ = _
  rw [List.getD_eq_getElem?_getD, List.getElem?_map, List.getElem?_eq_getElem hl, List.getElem_idxOf]
  rfl

theorem crashed_ren {M : MDisk} {ord : List Nat} (ns : List Int) : ∀ (nm : Names) (i : Nat), (∀ x ∈ nm, x.2 ∈ ord) → (M.renum ord).crashed ns i (nm.map (ren ord)) = M.crashed ns i nm
  | [], _, _ => rfl
  | x :: nm, i, h => by
    rw [List.map_cons]
    unfold MDisk.crashed
    rw [crashed_ren ns nm (i + 1) fun y hy => h y (List.mem_cons_of_mem _ hy)]
    have e : (M.renum ord).fileAt (ren ord x).2 = M.fileAt x.2 := fileAt_ren (h x List.mem_cons_self)
    rw [e]

theorem left_ren (M : MDisk) (ord : List Nat) (k : Int) : (M.renum ord).left_ k = (M.left_ k).map (ren ord) := by
  show ((M.changes.map (renC ord)).take k.toNat).foldl doN (M.kept.map (ren ord)) = _
  rw [← List.map_take, foldl_ren]
  rfl

/-- A crash levels them. -/
theorem crash_ren {M : MDisk} {ord : List Nat} (h : Covers M ord) (k : Int) (ns : List Int) : (M.renum ord).crash k ns = M.crash k ns := by
  have hP : ∀ x ∈ M.left_ k, x.2 ∈ ord := foldl_P _ h.kept fun c hc => h.chs c (List.mem_of_mem_take hc)
  have h1 : (M.renum ord).crash k ns = ⟨(M.renum ord).crashed ns 0 ((M.renum ord).left_ k), MDisk.numbered 0 ((M.renum ord).left_ k), MDisk.numbered 0 ((M.renum ord).left_ k), [], M.room, false, false, 0⟩ := rfl
  rw [h1, left_ren, crashed_ren ns _ 0 hP, numbered_ren]
  rfl

theorem ready_ren (M : MDisk) (ord : List Nat) : (M.renum ord).ready = (M.ready.1, M.ready.2.renum ord) := by
  unfold MDisk.ready
  show (if M.down then _ else if M.doomed then (if M.left = 0 then _ else _) else _) = _
  split
  · rfl
  · split
    · split <;> rfl
    · rfl
theorem covers_ready {M : MDisk} {ord : List Nat} (h : Covers M ord) : Covers M.ready.2 ord := by
  obtain ⟨h1, h2, h3, h4, _⟩ := ready_same M
  exact ⟨h.nodup, h1 ▸ h.lt, h2 ▸ h.now, h3 ▸ h.kept, h4 ▸ h.chs⟩

theorem names_ren (M : MDisk) (ord : List Nat) : (M.renum ord).names.1 = M.names.1 ∧ (M.renum ord).names.2.1 = M.names.2.1 ∧ (M.renum ord).names.2.2 = M.names.2.2.renum ord := by
  rw [MDisk.names_st, MDisk.names_st]
  unfold MDisk.names
  rw [ready_ren]
  split
  · exact ⟨rfl, rfl, rfl⟩
  · refine ⟨rfl, ?_, rfl⟩
    show (M.ready.2.now.map (ren ord)).map (·.1) = M.ready.2.now.map (·.1)
    rw [List.map_map]
    rfl
theorem read_ren {M : MDisk} {ord : List Nat} (h : Covers M ord) (n : ByteArray) : ((M.renum ord).read n).1 = (M.read n).1 ∧ ((M.renum ord).read n).2.1 = (M.read n).2.1 ∧ ((M.renum ord).read n).2.2 = (M.read n).2.2.renum ord := by
  have hc := covers_ready h
  rw [MDisk.read_st, MDisk.read_st]
  unfold MDisk.read MDisk.find
  rw [ready_ren]
  by_cases h0 : M.ready.1 ≠ 0
  · rw [if_pos h0, if_pos h0]
    exact ⟨rfl, rfl, rfl⟩
  · rw [if_neg h0, if_neg h0]
    have hf : findN n (M.ready.2.renum ord).now = (findN n M.ready.2.now).map ord.idxOf := findN_ren ord n M.ready.2.now
    dsimp only
    rw [hf]
    cases hn : findN n M.ready.2.now with
    | none => exact ⟨rfl, rfl, rfl⟩
    | some i =>
      refine ⟨rfl, ?_, rfl⟩
      show ((M.ready.2.renum ord).fileAt (ord.idxOf i)).bytes = (M.ready.2.fileAt i).bytes
      rw [fileAt_ren (hc.now _ (mem_of_findN hn))]

theorem fits_ren {ord : List Nat} {nm : Names} {c : MChange} (h : Fits nm c) : Fits (nm.map (ren ord)) (renC ord c) := by
  rcases h with h | ⟨h, i, hi, hf⟩
  · exact .inl h
  · refine .inr ⟨h, ord.idxOf i, by show findN c.gone _ = _; rw [findN_ren, hi]; rfl, fun hn => ?_⟩
    have hn : c.new ≠ noName := hn
    show (if c.new = noName then c.file else ord.idxOf c.file) = _
    rw [if_neg hn, hf hn]
theorem fitsAll_ren {ord : List Nat} : ∀ {l : List MChange} {nm : Names}, FitsAll nm l → FitsAll (nm.map (ren ord)) (l.map (renC ord))
  | [], _, _ => trivial
  | c :: l, nm, h => ⟨fits_ren h.1, by rw [doN_ren]; exact fitsAll_ren h.2⟩
theorem sorted_ren {ord : List Nat} {nm : Names} (h : SortedN nm) : SortedN (nm.map (ren ord)) := List.pairwise_map.2 h

theorem covers_len {M : MDisk} {ord : List Nat} (h : Covers M ord) : ord.length ≤ M.files.length := by
  have hp : ord.Perm ((List.range M.files.length).filter fun b => decide (b ∈ ord)) := by
    rw [List.perm_ext_iff_of_nodup h.nodup (List.nodup_range.filter _)]
    intro b
    rw [List.mem_filter]
    constructor
    · intro hb
      exact ⟨List.mem_range.2 (h.lt b hb), by simpa using hb⟩
    · rintro ⟨_, hb⟩
      simpa using hb
  have := hp.length_eq
  have h2 := List.length_filter_le (fun b => decide (b ∈ ord)) (List.range M.files.length)
  rw [List.length_range] at h2
  omega

theorem file_ren {M : MDisk} {ord : List Nat} (h : Covers M ord) {f : MFile} (hf : f ∈ (M.renum ord).files) : f ∈ M.files := by
  obtain ⟨i, hi, rfl⟩ := List.mem_map.1 hf
  have := h.lt i hi
  unfold MDisk.fileAt
  rw [List.getD_eq_getElem?_getD, List.getElem?_eq_getElem this]
  exact List.getElem_mem this

theorem good_ren {M : MDisk} {ord : List Nat} (hg : M.Good) (h : Covers M ord) : (M.renum ord).Good := by
  have hlen : (M.renum ord).files.length = ord.length := List.length_map _
  refine ⟨sorted_ren hg.sortK, fun x hx => ?_, fitsAll_ren hg.fits, ?_, fun x hx => ?_, fun c hc hn => ?_, fun f hf => hg.keptF f (file_ren h hf)⟩
  · obtain ⟨y, hy, rfl⟩ := List.mem_map.1 hx
    exact hg.empty y hy
  · show M.now.map (ren ord) = (M.changes.map (renC ord)).foldl doN (M.kept.map (ren ord))
    rw [foldl_ren, ← hg.now]
  · obtain ⟨y, hy, rfl⟩ := List.mem_map.1 hx
    rw [hlen]
    exact List.idxOf_lt_length_iff.2 (h.kept y hy)
  · obtain ⟨y, hy, rfl⟩ := List.mem_map.1 hc
    have hn : y.new ≠ noName := hn
    rw [hlen]
    show (if y.new = noName then y.file else ord.idxOf y.file) < _
    rw [if_neg hn]
    exact List.idxOf_lt_length_iff.2 (h.chs y hy hn)
theorem small_ren {M : MDisk} {ord : List Nat} {n b : Nat} (hm : M.Small n b) (h : Covers M ord) : (M.renum ord).Small n b := by
  have hl := covers_len h
  have hn := hm.names
  have hf := hm.files
  refine ⟨hm.left, ?_, ?_, fun f hf => hm.each f (file_ren h hf)⟩
  · show (M.kept.map _).length + (M.changes.map _).length ≤ n
    rw [List.length_map, List.length_map]
    exact hn
  · show (ord.map _).length ≤ n
    rw [List.length_map]
    omega

end Go.Proofs.Ytonjaaljnjjjcaa

/- Helpers for contracts. Conditions: as each lemma says. -/
set_option linter.unusedVariables false
set_option linter.unusedSimpArgs false
namespace Go.Proofs.Ytonjaaljnjjjcaa
open Go Go.RowKit


theorem w64 {n : Int} (h : -9223372036854775808 ≤ n) (h' : n ≤ 9223372036854775807) : IntKind.wrap .i64 n = n := by rw [IntKind.wrap_i64]; omega

theorem cutAt_zero (a : Option Addr) (m s : Nat) : cutAt a 0 m s = a := by
  unfold cutAt
  split
  · rfl
  · cases a with
    | none => rfl
    | some a =>
      obtain ⟨b, o, sp⟩ := a
      cases sp <;> simp [Addr.add]

theorem at_nilslice {t T : TypeId} (ht : Pr.underlying t = some (.slice T)) (w : World) (a : Option Addr) (l c : Nat) {x y : Operand} :
    At Pr w (do eqGuard .eql t x y (.slice a l c) (.slice none 0 0); binOp .eql t (.slice a l c) (.slice none 0 0)) (.bool a.isNone) := by
  unfold At
  have h : ∀ d, (Op.equalIn (d + 1) t (.slice a l c) (.slice none 0 0)).run Pr w = .ok a.isNone w := fun d => by
    cases a <;> simp [Op.equalIn, run_underlying ht]
  have h' : (Op.equal t (.slice a l c) (.slice none 0 0)).run Pr w = .ok a.isNone w := h 9999
  simp [eqGuard, binOp, h']

theorem tiB : TI 26 5 1 1 (.int .u8 0) := ⟨by kernel_rfl, by kernel_rfl, rfl, by decide⟩
theorem tiBB : TI 22 26 1 24 (.slice none 0 0) := ⟨by kernel_rfl, by kernel_rfl, rfl, by decide⟩

theorem RdS.idx {I : List Chunk} {s : SV} {xs : List Value} (h : RdS I 1 s xs) {i : Nat} {v : Value} (hv : xs[i]? = some v) {E w : World} {L : List Chunk} (hS : Sep E w L) (hI : ∀ c ∈ I, c ∈ L) {t : TypeId} (ht : oneT Pr t = true) :
    ∃ a, s.a = some a ∧ At Pr w (loadVar t (a.add (i * 1))) v := by
  cases ha : s.a with
  | none =>
    have h0 := h.nil ha
    have h1 := h.len1
    have : i < xs.length := (List.getElem?_eq_some_iff.1 hv).1
    omega
  | some a =>
    refine ⟨a, rfl, ?_⟩
    obtain ⟨b, o, sp⟩ := a
    rcases h.at_ _ ha with h0 | ⟨hsp, cs, T, fr, hc, hv'⟩
    · have h1 := h.len1
      have : i < xs.length := (List.getElem?_eq_some_iff.1 hv).1
      omega
    · simp only at hsp
      subst hsp
      rw [Nat.mul_one, addr_add]
      exact hS.load (hI _ hc) (hv' i v hv) ht

theorem RdS.cut {I : List Chunk} {sz : Nat} {s : SV} {xs : List Value} (hr : RdS I sz s xs) {l h m : Nat} (hl : l ≤ h) (hh : h ≤ s.len) (hm : h ≤ m) (hm' : m ≤ s.cap) :
    RdS I sz ⟨cutAt s.a l m sz, h - l, m - l⟩ ((xs.drop (l * sz)).take ((h - l) * sz)) := by
  have hmul : (h - l) * sz ≤ xs.length - l * sz := by
    rw [hr.len, ← Nat.sub_mul]
    exact Nat.mul_le_mul_right _ (by omega)
  refine ⟨?_, by show h - l ≤ m - l; omega, fun ha => ?_, fun a ha => ?_⟩
  · simp only [List.length_take, List.length_drop]
    omega
  · show h - l = 0
    simp only [cutAt] at ha
    split at ha
    · omega
    · have := hr.nil (by simpa using ha)
      omega
  · simp only [cutAt] at ha
    split at ha
    · exact .inl (by show h - l = 0; omega)
    · cases ha' : s.a with
      | none => rw [ha'] at ha; cases ha
      | some b =>
        rw [ha'] at ha
        simp only [Option.map_some, Option.some.injEq] at ha
        rcases hr.at_ b ha' with h0 | ⟨h1, cs, T, fr, hc, hv⟩
        · exact .inl (by show h - l = 0; omega)
        · obtain ⟨bb, bo, bs⟩ := b
          simp only at h1
          subst h1
          rw [addr_add] at ha
          subst ha
          refine .inr ⟨rfl, cs, T, fr, hc, fun j u hu => ?_⟩
          rw [List.getElem?_take] at hu
          split at hu
          · rw [List.getElem?_drop] at hu
            have := hv _ _ hu
            simpa [Nat.add_assoc] using this
          · cases hu

theorem RdB.cut {I : List Chunk} {s : SV} {xs : List UInt8} (hr : RdB I s xs) {l h m : Nat} (hl : l ≤ h) (hh : h ≤ s.len) (hm : h ≤ m) (hm' : m ≤ s.cap) :
    RdB I ⟨cutAt s.a l m 1, h - l, m - l⟩ ((xs.drop l).take (h - l)) := by
  have := RdS.cut hr hl hh hm hm'
  rw [Nat.mul_one, Nat.mul_one, ← List.map_drop, ← List.map_take] at this
  exact this

theorem RdS.none (I : List Chunk) (sz : Nat) : RdS I sz SV.nil [] := ⟨by simp [SV.nil], Nat.le_refl _, fun _ => rfl, fun a ha => by cases ha⟩

theorem Own.rdl {T sz : Nat} {s : SV} {vs : List Value} {C : List Chunk} (h : Own T sz s vs C) (L : List Chunk) : RdS (C ++ L) sz s vs := h.rds.mono fun c hc => List.mem_append_left _ hc
theorem RdS.left {I : List Chunk} {sz : Nat} {s : SV} {xs : List Value} (h : RdS I sz s xs) (C : List Chunk) : RdS (I ++ C) sz s xs := h.mono fun c hc => List.mem_append_left _ hc
theorem RdS.right {I : List Chunk} {sz : Nat} {s : SV} {xs : List Value} (h : RdS I sz s xs) (C : List Chunk) : RdS (C ++ I) sz s xs := h.mono fun c hc => List.mem_append_right _ hc
theorem RdS.tail {I : List Chunk} {sz : Nat} {s : SV} {xs : List Value} (h : RdS I sz s xs) (C : Chunk) : RdS (C :: I) sz s xs := h.mono fun c hc => List.mem_cons_of_mem _ hc

/-- Slices that read as lists of bytes. -/
def RdBs (I : List Chunk) (ss : List SV) (ls : List (List UInt8)) : Prop := ss.length = ls.length ∧ ∀ (i : Nat) (s : SV) (l : List UInt8), ss[i]? = some s → ls[i]? = some l → RdB I s l

theorem RdBs.mono {I I' : List Chunk} {ss : List SV} {ls : List (List UInt8)} (h : RdBs I ss ls) (hI : ∀ c ∈ I, c ∈ I') : RdBs I' ss ls := ⟨h.1, fun i s l hs hl => (h.2 i s l hs hl).mono hI⟩
theorem RdBs.nil (I : List Chunk) : RdBs I [] [] := ⟨rfl, fun i s l hs => by simp at hs⟩
theorem RdBs.cons {I : List Chunk} {s : SV} {l : List UInt8} {ss : List SV} {ls : List (List UInt8)} (h : RdB I s l) (hs : RdBs I ss ls) : RdBs I (s :: ss) (l :: ls) :=
  ⟨by simp [hs.1], fun i s' l' h1 h2 => by
    cases i with
    | zero => simp at h1 h2; subst h1; subst h2; exact h
    | succ i => exact hs.2 i s' l' (by simpa using h1) (by simpa using h2)⟩
theorem RdBs.append {I : List Chunk} {ss ss' : List SV} {ls ls' : List (List UInt8)} (h : RdBs I ss ls) (h' : RdBs I ss' ls') : RdBs I (ss ++ ss') (ls ++ ls') :=
  ⟨by simp [h.1, h'.1], fun i s l h1 h2 => by
    rw [List.getElem?_append] at h1 h2
    rw [h.1] at h1
    split at h1
    · rename_i hi
      rw [if_pos hi] at h2
      exact h.2 i s l h1 h2
    · rename_i hi
      rw [if_neg hi] at h2
      exact h'.2 _ s l h1 h2⟩

abbrev slV (s : SV) : Value := .slice s.a s.len s.cap
theorem slV_one (ss : List SV) : ∀ u ∈ ss.map slV, u.oneCell' = true := by
  intro u hu
  obtain ⟨b, _, rfl⟩ := List.mem_map.1 hu
  rfl

end Go.Proofs.Ytonjaaljnjjjcaa

/- What 'vc' of these functions comes to, and their calls by it. Printed by dec.py. -/
set_option linter.unusedVariables false
set_option linter.unusedSimpArgs false
namespace Go.Proofs.Ytonjaaljnjjjcaa
open Go

/-- creel/creellaw13.RunNil -/
def ir4 (x0 : SV) (x1 : ByteArray) (w0 : World) (R : Value → World → Prop) : Prop :=
  Calls Pr 20 #[] w0 fun e1 w1 =>
    ∃ (b1 : Bool),
    e1 = .returned (.bool b1) ∧
    Calls Pr 21 #[(.pointer none)] w1 fun e2 w2 =>
      ∃ (s1 : SV) (b2 : Bool) (n1 : Int),
      e2 = .returned (.tuple #[(.agg #[(.slice s1.a s1.len s1.cap), (.bool b2)]), (.int .i64 n1)]) ∧
      ∃ (a1 : Addr) (w3 : World),
      Sem.run Pr (Instr.alloc 34 true (.tuple #[])) w2 = .ok (.pointer (some a1)) w3 ∧
      ∃ (w4 : World),
      Sem.run Pr (Instr.storeAt 34 (.pointer (some a1)) (.agg #[(.slice s1.a s1.len s1.cap), (.bool b2)])) w3 = .ok () w4 ∧
      brc (b1)
        (Calls Pr 22 #[(.pointer none), (.slice x0.a x0.len x0.cap)] w4 fun e3 w5 =>
            ∃ (n2 : Int),
            e3 = .returned (.int .i64 n2) ∧
            brc (n2 == (2 : Int))
              (Calls Pr 23 #[(.pointer none), (.string x1)] w5 fun e4 w6 =>
                  ∃ (n3 : Int),
                  e4 = .returned (.int .i64 n3) ∧
                  brc (n3 == (2 : Int))
                    (Calls Pr 24 #[(.pointer none)] w6 fun e5 w7 =>
                        ∃ (n4 : Int),
                        e5 = .returned (.int .i64 n4) ∧
                        brc (n4 == (0 : Int))
                          (∃ (b3 : Bool),
                            At Pr w7 (loadVar 4 (Addr.add a1 1)) (.bool b3) ∧
                            brc (!b3)
                              (R (.bool (n1 == (2 : Int))) w7)
                              (R (.bool false) w7))
                          (R (.bool false) w7))
                    (R (.bool false) w6))
              (R (.bool false) w5))
        (R (.bool false) w4)

theorem call4 {x0 : SV} {x1 : ByteArray} {w0 : World} {R : Ending → World → Prop} (h : ir4 x0 x1 w0 fun v w => R (.returned v) w) : Calls Pr 4 #[.slice x0.a x0.len x0.cap, .string x1] w0 R := by
  refine calls_of_vc (ann := []) (E := []) (args := [.slice x0.a x0.len x0.cap, .string x1]) follows Try.func4 rfl (by kernel_rfl) ?_
  apply by_eq h
  kernel_rfl

/-- creel/creellaw13.shown -/
def ir20 (w0 : World) (R : Value → World → Prop) : Prop :=
  Calls Pr 25 #[(.int .i64 100)] w0 fun e1 w1 =>
    ∃ (p1 : Option Addr),
    e1 = .returned (.pointer p1) ∧
    Calls Pr 27 #[(.pointer p1)] w1 fun e2 w2 =>
      ∃ (p2 : Option Addr) (n1 : Int),
      e2 = .returned (.tuple #[(.pointer p2), (.int .i64 n1)]) ∧
      brc (Option.isNone p2)
        (R (.bool false) w2)
        (brc (n1 != (0 : Int))
            (R (.bool false) w2)
            (∃ (s1 : SV) (w3 : World),
              Sem.run Pr (Instr.buildSlice 26 1 #[(0, (.int .u8 97))]) w2 = .ok (.slice s1.a s1.len s1.cap) w3 ∧
              ∃ (s2 : SV) (w4 : World),
              Sem.run Pr (convert 26 26 (.slice s1.a s1.len s1.cap)) w3 = .ok (.slice s2.a s2.len s2.cap) w4 ∧
              Calls Pr 22 #[(.pointer p2), (.slice s2.a s2.len s2.cap)] w4 fun e3 w5 =>
                ∃ (n2 : Int),
                e3 = .returned (.int .i64 n2) ∧
                brc (n2 != (0 : Int))
                  (R (.bool false) w5)
                  (∃ (s3 : SV) (w6 : World),
                    Sem.run Pr (Instr.buildSlice 26 1 #[(0, (.int .u8 97))]) w5 = .ok (.slice s3.a s3.len s3.cap) w6 ∧
                    ∃ (s4 : SV) (w7 : World),
                    Sem.run Pr (convert 26 26 (.slice s3.a s3.len s3.cap)) w6 = .ok (.slice s4.a s4.len s4.cap) w7 ∧
                    Calls Pr 22 #[(.pointer p2), (.slice s4.a s4.len s4.cap)] w7 fun e4 w8 =>
                      ∃ (n3 : Int),
                      e4 = .returned (.int .i64 n3) ∧
                      brc (n3 != (130 : Int))
                        (R (.bool false) w8)
                        (∃ (s5 : SV) (w9 : World),
                          Sem.run Pr (Instr.buildSlice 26 1 #[(0, (.int .u8 98))]) w8 = .ok (.slice s5.a s5.len s5.cap) w9 ∧
                          ∃ (s6 : SV) (w10 : World),
                          Sem.run Pr (convert 26 26 (.slice s5.a s5.len s5.cap)) w9 = .ok (.slice s6.a s6.len s6.cap) w10 ∧
                          Calls Pr 22 #[(.pointer p2), (.slice s6.a s6.len s6.cap)] w10 fun e5 w11 =>
                            ∃ (n4 : Int),
                            e5 = .returned (.int .i64 n4) ∧
                            brc (n4 != (0 : Int))
                              (R (.bool false) w11)
                              (Calls Pr 23 #[(.pointer p2), (.string (⟨#[120]⟩ : ByteArray))] w11 fun e6 w12 =>
                                  ∃ (n5 : Int),
                                  e6 = .returned (.int .i64 n5) ∧
                                  brc (n5 != (0 : Int))
                                    (R (.bool false) w12)
                                    (Calls Pr 28 #[(.pointer p1), (.string (⟨#[120]⟩ : ByteArray))] w12 fun e7 w13 =>
                                        ∃ (s7 : SV) (n6 : Int),
                                        e7 = .returned (.tuple #[(.slice s7.a s7.len s7.cap), (.int .i64 n6)]) ∧
                                        ∃ (S1 : World → Prop),
                                        S1 (World.drew w13) ∧
                                        brc (n6 == (0 : Int))
                                          (∃ (str1 : ByteArray),
                                            AtS Pr S1 (convert 26 9 (.slice s7.a s7.len s7.cap)) (.string str1) ∧
                                            (∃ (s8 : SV) (w14 : World),
                                            Sem.run Pr (Instr.buildSlice 26 1 #[(0, (.int .u8 97))]) (World.drew w13) = .ok (.slice s8.a s8.len s8.cap) w14 ∧
                                            ∃ (S2 : World → Prop),
                                            (∀ w, S2 w → S1 w) ∧
                                            S2 w14 ∧
                                            (∃ (s9 : SV) (w15 : World),
                                            Sem.run Pr (convert 26 26 (.slice s8.a s8.len s8.cap)) w14 = .ok (.slice s9.a s9.len s9.cap) w15 ∧
                                            ∃ (S3 : World → Prop),
                                            (∀ w, S3 w → S2 w) ∧
                                            S3 w15 ∧
                                            ∃ (s10 : SV) (w16 : World),
                                            Sem.run Pr (Instr.buildSlice 26 1 #[(0, (.int .u8 98))]) w15 = .ok (.slice s10.a s10.len s10.cap) w16 ∧
                                            ∃ (S4 : World → Prop),
                                            (∀ w, S4 w → S3 w) ∧
                                            S4 w16 ∧
                                            ∃ (s11 : SV) (w17 : World),
                                            Sem.run Pr (convert 26 26 (.slice s10.a s10.len s10.cap)) w16 = .ok (.slice s11.a s11.len s11.cap) w17 ∧
                                            ∃ (S5 : World → Prop),
                                            (∀ w, S5 w → S4 w) ∧
                                            S5 w17 ∧
                                            ∃ (s12 : SV) (w18 : World),
                                            Sem.run Pr (Instr.buildSlice 22 2 #[(0, (.slice s9.a s9.len s9.cap)), (1, (.slice s11.a s11.len s11.cap))]) w17 = .ok (.slice s12.a s12.len s12.cap) w18 ∧
                                            ∃ (S6 : World → Prop),
                                            (∀ w, S6 w → S5 w) ∧
                                            S6 w18 ∧
                                            Calls Pr 66 #[(.slice s12.a s12.len s12.cap)] w18 fun e8 w19 =>
                                              ∃ (s13 : SV),
                                              e8 = .returned (.slice s13.a s13.len s13.cap) ∧
                                              ∃ (S7 : World → Prop),
                                              (∀ w, S7 w → S6 w) ∧
                                              S7 w19 ∧
                                              ∃ (str2 : ByteArray),
                                              AtS Pr S7 (convert 26 9 (.slice s13.a s13.len s13.cap)) (.string str2) ∧
                                              brc ((ByteArray.toList str1 == ByteArray.toList str2))
                                                (Calls Pr 24 #[(.pointer p2)] w19 fun e9 w20 =>
                                                    ∃ (n7 : Int),
                                                    e9 = .returned (.int .i64 n7) ∧
                                                    ∃ (S8 : World → Prop),
                                                    (∀ w, S8 w → S7 w) ∧
                                                    S8 w20 ∧
                                                    R (.bool (n7 == (2 : Int))) w20)
                                                (R (.bool false) w19)) ∧
                                            ∃ (s14 : SV) (w21 : World),
                                            Sem.run Pr (Instr.buildSlice 26 1 #[(0, (.int .u8 98))]) w14 = .ok (.slice s14.a s14.len s14.cap) w21 ∧
                                            ∃ (S9 : World → Prop),
                                            (∀ w, S9 w → S2 w) ∧
                                            S9 w21 ∧
                                            (∃ (s15 : SV) (w22 : World),
                                            Sem.run Pr (convert 26 26 (.slice s8.a s8.len s8.cap)) w21 = .ok (.slice s15.a s15.len s15.cap) w22 ∧
                                            ∃ (S10 : World → Prop),
                                            (∀ w, S10 w → S9 w) ∧
                                            S10 w22 ∧
                                            ∃ (s16 : SV) (w23 : World),
                                            Sem.run Pr (convert 26 26 (.slice s14.a s14.len s14.cap)) w22 = .ok (.slice s16.a s16.len s16.cap) w23 ∧
                                            ∃ (S11 : World → Prop),
                                            (∀ w, S11 w → S10 w) ∧
                                            S11 w23 ∧
                                            ∃ (s17 : SV) (w24 : World),
                                            Sem.run Pr (Instr.buildSlice 22 2 #[(0, (.slice s15.a s15.len s15.cap)), (1, (.slice s16.a s16.len s16.cap))]) w23 = .ok (.slice s17.a s17.len s17.cap) w24 ∧
                                            ∃ (S12 : World → Prop),
                                            (∀ w, S12 w → S11 w) ∧
                                            S12 w24 ∧
                                            Calls Pr 66 #[(.slice s17.a s17.len s17.cap)] w24 fun e10 w25 =>
                                              ∃ (s18 : SV),
                                              e10 = .returned (.slice s18.a s18.len s18.cap) ∧
                                              ∃ (S13 : World → Prop),
                                              (∀ w, S13 w → S12 w) ∧
                                              S13 w25 ∧
                                              ∃ (str3 : ByteArray),
                                              AtS Pr S13 (convert 26 9 (.slice s18.a s18.len s18.cap)) (.string str3) ∧
                                              brc ((ByteArray.toList str1 == ByteArray.toList str3))
                                                (Calls Pr 24 #[(.pointer p2)] w25 fun e11 w26 =>
                                                    ∃ (n8 : Int),
                                                    e11 = .returned (.int .i64 n8) ∧
                                                    ∃ (S14 : World → Prop),
                                                    (∀ w, S14 w → S13 w) ∧
                                                    S14 w26 ∧
                                                    R (.bool (n8 == (2 : Int))) w26)
                                                (R (.bool false) w25)) ∧
                                            ∃ (s19 : SV) (w27 : World),
                                            Sem.run Pr (convert 26 26 (.slice s14.a s14.len s14.cap)) w21 = .ok (.slice s19.a s19.len s19.cap) w27 ∧
                                            ∃ (S15 : World → Prop),
                                            (∀ w, S15 w → S9 w) ∧
                                            S15 w27 ∧
                                            ∃ (s20 : SV) (w28 : World),
                                            Sem.run Pr (convert 26 26 (.slice s8.a s8.len s8.cap)) w27 = .ok (.slice s20.a s20.len s20.cap) w28 ∧
                                            ∃ (S16 : World → Prop),
                                            (∀ w, S16 w → S15 w) ∧
                                            S16 w28 ∧
                                            ∃ (s21 : SV) (w29 : World),
                                            Sem.run Pr (Instr.buildSlice 22 2 #[(0, (.slice s20.a s20.len s20.cap)), (1, (.slice s19.a s19.len s19.cap))]) w28 = .ok (.slice s21.a s21.len s21.cap) w29 ∧
                                            ∃ (S17 : World → Prop),
                                            (∀ w, S17 w → S16 w) ∧
                                            S17 w29 ∧
                                            Calls Pr 66 #[(.slice s21.a s21.len s21.cap)] w29 fun e12 w30 =>
                                              ∃ (s22 : SV),
                                              e12 = .returned (.slice s22.a s22.len s22.cap) ∧
                                              ∃ (S18 : World → Prop),
                                              (∀ w, S18 w → S17 w) ∧
                                              S18 w30 ∧
                                              ∃ (str4 : ByteArray),
                                              AtS Pr S18 (convert 26 9 (.slice s22.a s22.len s22.cap)) (.string str4) ∧
                                              brc ((ByteArray.toList str1 == ByteArray.toList str4))
                                                (Calls Pr 24 #[(.pointer p2)] w30 fun e13 w31 =>
                                                    ∃ (n9 : Int),
                                                    e13 = .returned (.int .i64 n9) ∧
                                                    ∃ (S19 : World → Prop),
                                                    (∀ w, S19 w → S18 w) ∧
                                                    S19 w31 ∧
                                                    R (.bool (n9 == (2 : Int))) w31)
                                                (R (.bool false) w30)) ∧
                                            ∃ (s23 : SV) (w32 : World),
                                            Sem.run Pr (Instr.buildSlice 26 1 #[(0, (.int .u8 98))]) (World.drew w13) = .ok (.slice s23.a s23.len s23.cap) w32 ∧
                                            ∃ (S20 : World → Prop),
                                            (∀ w, S20 w → S1 w) ∧
                                            S20 w32 ∧
                                            (∃ (s24 : SV) (w33 : World),
                                            Sem.run Pr (Instr.buildSlice 26 1 #[(0, (.int .u8 97))]) w32 = .ok (.slice s24.a s24.len s24.cap) w33 ∧
                                            ∃ (S21 : World → Prop),
                                            (∀ w, S21 w → S20 w) ∧
                                            S21 w33 ∧
                                            (∃ (s25 : SV) (w34 : World),
                                            Sem.run Pr (convert 26 26 (.slice s24.a s24.len s24.cap)) w33 = .ok (.slice s25.a s25.len s25.cap) w34 ∧
                                            ∃ (S22 : World → Prop),
                                            (∀ w, S22 w → S21 w) ∧
                                            S22 w34 ∧
                                            ∃ (s26 : SV) (w35 : World),
                                            Sem.run Pr (convert 26 26 (.slice s23.a s23.len s23.cap)) w34 = .ok (.slice s26.a s26.len s26.cap) w35 ∧
                                            ∃ (S23 : World → Prop),
                                            (∀ w, S23 w → S22 w) ∧
                                            S23 w35 ∧
                                            ∃ (s27 : SV) (w36 : World),
                                            Sem.run Pr (Instr.buildSlice 22 2 #[(0, (.slice s25.a s25.len s25.cap)), (1, (.slice s26.a s26.len s26.cap))]) w35 = .ok (.slice s27.a s27.len s27.cap) w36 ∧
                                            ∃ (S24 : World → Prop),
                                            (∀ w, S24 w → S23 w) ∧
                                            S24 w36 ∧
                                            Calls Pr 66 #[(.slice s27.a s27.len s27.cap)] w36 fun e14 w37 =>
                                              ∃ (s28 : SV),
                                              e14 = .returned (.slice s28.a s28.len s28.cap) ∧
                                              ∃ (S25 : World → Prop),
                                              (∀ w, S25 w → S24 w) ∧
                                              S25 w37 ∧
                                              ∃ (str5 : ByteArray),
                                              AtS Pr S25 (convert 26 9 (.slice s28.a s28.len s28.cap)) (.string str5) ∧
                                              brc ((ByteArray.toList str1 == ByteArray.toList str5))
                                                (Calls Pr 24 #[(.pointer p2)] w37 fun e15 w38 =>
                                                    ∃ (n10 : Int),
                                                    e15 = .returned (.int .i64 n10) ∧
                                                    ∃ (S26 : World → Prop),
                                                    (∀ w, S26 w → S25 w) ∧
                                                    S26 w38 ∧
                                                    R (.bool (n10 == (2 : Int))) w38)
                                                (R (.bool false) w37)) ∧
                                            ∃ (s29 : SV) (w39 : World),
                                            Sem.run Pr (convert 26 26 (.slice s23.a s23.len s23.cap)) w33 = .ok (.slice s29.a s29.len s29.cap) w39 ∧
                                            ∃ (S27 : World → Prop),
                                            (∀ w, S27 w → S21 w) ∧
                                            S27 w39 ∧
                                            ∃ (s30 : SV) (w40 : World),
                                            Sem.run Pr (convert 26 26 (.slice s24.a s24.len s24.cap)) w39 = .ok (.slice s30.a s30.len s30.cap) w40 ∧
                                            ∃ (S28 : World → Prop),
                                            (∀ w, S28 w → S27 w) ∧
                                            S28 w40 ∧
                                            ∃ (s31 : SV) (w41 : World),
                                            Sem.run Pr (Instr.buildSlice 22 2 #[(0, (.slice s30.a s30.len s30.cap)), (1, (.slice s29.a s29.len s29.cap))]) w40 = .ok (.slice s31.a s31.len s31.cap) w41 ∧
                                            ∃ (S29 : World → Prop),
                                            (∀ w, S29 w → S28 w) ∧
                                            S29 w41 ∧
                                            Calls Pr 66 #[(.slice s31.a s31.len s31.cap)] w41 fun e16 w42 =>
                                              ∃ (s32 : SV),
                                              e16 = .returned (.slice s32.a s32.len s32.cap) ∧
                                              ∃ (S30 : World → Prop),
                                              (∀ w, S30 w → S29 w) ∧
                                              S30 w42 ∧
                                              ∃ (str6 : ByteArray),
                                              AtS Pr S30 (convert 26 9 (.slice s32.a s32.len s32.cap)) (.string str6) ∧
                                              brc ((ByteArray.toList str1 == ByteArray.toList str6))
                                                (Calls Pr 24 #[(.pointer p2)] w42 fun e17 w43 =>
                                                    ∃ (n11 : Int),
                                                    e17 = .returned (.int .i64 n11) ∧
                                                    ∃ (S31 : World → Prop),
                                                    (∀ w, S31 w → S30 w) ∧
                                                    S31 w43 ∧
                                                    R (.bool (n11 == (2 : Int))) w43)
                                                (R (.bool false) w42)) ∧
                                            ∃ (s33 : SV) (w44 : World),
                                            Sem.run Pr (convert 26 26 (.slice s23.a s23.len s23.cap)) w32 = .ok (.slice s33.a s33.len s33.cap) w44 ∧
                                            ∃ (S32 : World → Prop),
                                            (∀ w, S32 w → S20 w) ∧
                                            S32 w44 ∧
                                            ∃ (s34 : SV) (w45 : World),
                                            Sem.run Pr (Instr.buildSlice 26 1 #[(0, (.int .u8 97))]) w44 = .ok (.slice s34.a s34.len s34.cap) w45 ∧
                                            ∃ (S33 : World → Prop),
                                            (∀ w, S33 w → S32 w) ∧
                                            S33 w45 ∧
                                            ∃ (s35 : SV) (w46 : World),
                                            Sem.run Pr (convert 26 26 (.slice s34.a s34.len s34.cap)) w45 = .ok (.slice s35.a s35.len s35.cap) w46 ∧
                                            ∃ (S34 : World → Prop),
                                            (∀ w, S34 w → S33 w) ∧
                                            S34 w46 ∧
                                            ∃ (s36 : SV) (w47 : World),
                                            Sem.run Pr (Instr.buildSlice 22 2 #[(0, (.slice s35.a s35.len s35.cap)), (1, (.slice s33.a s33.len s33.cap))]) w46 = .ok (.slice s36.a s36.len s36.cap) w47 ∧
                                            ∃ (S35 : World → Prop),
                                            (∀ w, S35 w → S34 w) ∧
                                            S35 w47 ∧
                                            Calls Pr 66 #[(.slice s36.a s36.len s36.cap)] w47 fun e18 w48 =>
                                              ∃ (s37 : SV),
                                              e18 = .returned (.slice s37.a s37.len s37.cap) ∧
                                              ∃ (S36 : World → Prop),
                                              (∀ w, S36 w → S35 w) ∧
                                              S36 w48 ∧
                                              ∃ (str7 : ByteArray),
                                              AtS Pr S36 (convert 26 9 (.slice s37.a s37.len s37.cap)) (.string str7) ∧
                                              brc ((ByteArray.toList str1 == ByteArray.toList str7))
                                                (Calls Pr 24 #[(.pointer p2)] w48 fun e19 w49 =>
                                                    ∃ (n12 : Int),
                                                    e19 = .returned (.int .i64 n12) ∧
                                                    ∃ (S37 : World → Prop),
                                                    (∀ w, S37 w → S36 w) ∧
                                                    S37 w49 ∧
                                                    R (.bool (n12 == (2 : Int))) w49)
                                                (R (.bool false) w48))
                                          ((R (.bool false) (World.drew w13) ∧
                                            R (.bool false) (World.drew w13) ∧
                                            R (.bool false) (World.drew w13)) ∧
                                            (R (.bool false) (World.drew w13) ∧
                                            R (.bool false) (World.drew w13)) ∧
                                            R (.bool false) (World.drew w13))))))))

theorem call20 {w0 : World} {R : Ending → World → Prop} (h : ir20 w0 fun v w => R (.returned v) w) : Calls Pr 20 #[] w0 R := by
  refine calls_of_vc (ann := []) (E := []) (args := []) follows Try.func20 rfl (by kernel_rfl) ?_
  apply by_eq h
  kernel_rfl

/-- (*creel/run.Reader).Next -/
def ir21 (x0 : Option Addr) (w0 : World) (R : Value → World → Prop) : Prop :=
  ∃ (a1 : Addr) (w1 : World),
  Sem.run Pr (Instr.alloc 34 true (.tuple #[])) w0 = .ok (.pointer (some a1)) w1 ∧
  brc (Option.isNone x0)
    (∃ (w2 : World),
      Sem.run Pr (Instr.storeAt 34 (.pointer (some a1)) (.agg #[(.slice none 0 0), (.bool false)])) w1 = .ok () w2 ∧
      ∃ (s1 : SV) (b1 : Bool),
      At Pr w2 (loadVar 34 a1) (.agg #[(.slice s1.a s1.len s1.cap), (.bool b1)]) ∧
      R (.tuple #[(.agg #[(.slice s1.a s1.len s1.cap), (.bool b1)]), (.int .i64 2)]) w2)
    (optK x0 fun a2 =>
        ∃ (b2 : Bool),
        At Pr w1 (loadVar 4 (Addr.add a2 3)) (.bool b2) ∧
        brc (b2)
          (∃ (w3 : World),
            Sem.run Pr (Instr.storeAt 34 (.pointer (some a1)) (.agg #[(.slice none 0 0), (.bool false)])) w1 = .ok () w3 ∧
            ∃ (s2 : SV) (b3 : Bool),
            At Pr w3 (loadVar 34 a1) (.agg #[(.slice s2.a s2.len s2.cap), (.bool b3)]) ∧
            R (.tuple #[(.agg #[(.slice s2.a s2.len s2.cap), (.bool b3)]), (.int .i64 6)]) w3)
          (optK x0 fun a3 =>
              ∃ (s3 : SV),
              At Pr w1 (loadVar 26 (Addr.add a3 0)) (.slice s3.a s3.len s3.cap) ∧
              brc (((s3.len : Nat) : Int) == (0 : Int))
                (∃ (w4 : World),
                  Sem.run Pr (Instr.storeAt 34 (.pointer (some a1)) (.agg #[(.slice none 0 0), (.bool false)])) w1 = .ok () w4 ∧
                  ∃ (s4 : SV) (b4 : Bool),
                  At Pr w4 (loadVar 34 a1) (.agg #[(.slice s4.a s4.len s4.cap), (.bool b4)]) ∧
                  R (.tuple #[(.agg #[(.slice s4.a s4.len s4.cap), (.bool b4)]), (.int .i64 0)]) w4)
                (optK x0 fun a4 =>
                    ∃ (s5 : SV),
                    At Pr w1 (loadVar 26 (Addr.add a4 0)) (.slice s5.a s5.len s5.cap) ∧
                    Calls Pr 82 #[(.slice s5.a s5.len s5.cap)] w1 fun e1 w5 =>
                      ∃ (s6 : SV) (s7 : SV) (n1 : Int),
                      e1 = .returned (.tuple #[(.slice s6.a s6.len s6.cap), (.slice s7.a s7.len s7.cap), (.int .i64 n1)]) ∧
                      brc (n1 != (0 : Int))
                        (optK x0 fun a5 =>
                            ∃ (w6 : World),
                            Sem.run Pr (Instr.storeAt 4 (.pointer (some (Addr.add a5 3))) (.bool true)) w5 = .ok () w6 ∧
                            ∃ (w7 : World),
                            Sem.run Pr (Instr.storeAt 34 (.pointer (some a1)) (.agg #[(.slice none 0 0), (.bool false)])) w6 = .ok () w7 ∧
                            ∃ (s8 : SV) (b5 : Bool),
                            At Pr w7 (loadVar 34 a1) (.agg #[(.slice s8.a s8.len s8.cap), (.bool b5)]) ∧
                            R (.tuple #[(.agg #[(.slice s8.a s8.len s8.cap), (.bool b5)]), (.int .i64 6)]) w7)
                        (brc (decide (((s6.len : Nat) : Int) > (64 : Int)))
                            (optK x0 fun a6 =>
                                ∃ (w8 : World),
                                Sem.run Pr (Instr.storeAt 4 (.pointer (some (Addr.add a6 3))) (.bool true)) w5 = .ok () w8 ∧
                                ∃ (w9 : World),
                                Sem.run Pr (Instr.storeAt 34 (.pointer (some a1)) (.agg #[(.slice none 0 0), (.bool false)])) w8 = .ok () w9 ∧
                                ∃ (s9 : SV) (b6 : Bool),
                                At Pr w9 (loadVar 34 a1) (.agg #[(.slice s9.a s9.len s9.cap), (.bool b6)]) ∧
                                R (.tuple #[(.agg #[(.slice s9.a s9.len s9.cap), (.bool b6)]), (.int .i64 6)]) w9)
                            (optK x0 fun a7 =>
                                Calls Pr 83 #[(.pointer (some (Addr.add a7 1))), (.slice s6.a s6.len s6.cap)] w5 fun e2 w10 =>
                                  ∃ (b7 : Bool),
                                  e2 = .returned (.bool b7) ∧
                                  brc (!b7)
                                    (optK x0 fun a8 =>
                                        ∃ (w11 : World),
                                        Sem.run Pr (Instr.storeAt 4 (.pointer (some (Addr.add a8 3))) (.bool true)) w10 = .ok () w11 ∧
                                        ∃ (w12 : World),
                                        Sem.run Pr (Instr.storeAt 34 (.pointer (some a1)) (.agg #[(.slice none 0 0), (.bool false)])) w11 = .ok () w12 ∧
                                        ∃ (s10 : SV) (b8 : Bool),
                                        At Pr w12 (loadVar 34 a1) (.agg #[(.slice s10.a s10.len s10.cap), (.bool b8)]) ∧
                                        R (.tuple #[(.agg #[(.slice s10.a s10.len s10.cap), (.bool b8)]), (.int .i64 6)]) w12)
                                    (optK x0 fun a9 =>
                                        ∃ (w13 : World),
                                        Sem.run Pr (Instr.storeAt 26 (.pointer (some (Addr.add a9 0))) (.slice s7.a s7.len s7.cap)) w10 = .ok () w13 ∧
                                        ∃ (w14 : World),
                                        Sem.run Pr (Instr.storeAt 34 (.pointer (some a1)) (.agg #[(.slice s6.a s6.len s6.cap), (.bool true)])) w13 = .ok () w14 ∧
                                        ∃ (s11 : SV) (b9 : Bool),
                                        At Pr w14 (loadVar 34 a1) (.agg #[(.slice s11.a s11.len s11.cap), (.bool b9)]) ∧
                                        R (.tuple #[(.agg #[(.slice s11.a s11.len s11.cap), (.bool b9)]), (.int .i64 0)]) w14))))))

theorem call21 {x0 : Option Addr} {w0 : World} {R : Ending → World → Prop} (h : ir21 x0 w0 fun v w => R (.returned v) w) : Calls Pr 21 #[.pointer x0] w0 R := by
  refine calls_of_vc (ann := []) (E := []) (args := [.pointer x0]) follows Try.func21 rfl (by kernel_rfl) ?_
  apply by_eq h
  kernel_rfl

/-- (*creel/run.Writer).Add -/
def ir22 (x0 : Option Addr) (x1 : SV) (w0 : World) (R : Value → World → Prop) : Prop :=
  brc (Option.isNone x0)
    (R (.int .i64 2) w0)
    (brc (decide (((x1.len : Nat) : Int) > (64 : Int)))
        (R (.int .i64 3) w0)
        (optK x0 fun a1 =>
            ∃ (s1 : SV) (b1 : Bool),
            At Pr w0 (loadVar 128 (Addr.add a1 1)) (.agg #[(.slice s1.a s1.len s1.cap), (.bool b1)]) ∧
            ∃ (a2 : Addr) (w1 : World),
            Sem.run Pr (Instr.alloc 128 true (.tuple #[])) w0 = .ok (.pointer (some a2)) w1 ∧
            ∃ (w2 : World),
            Sem.run Pr (Instr.storeAt 128 (.pointer (some a2)) (.agg #[(.slice s1.a s1.len s1.cap), (.bool b1)])) w1 = .ok () w2 ∧
            optK x0 fun a3 =>
              Calls Pr 83 #[(.pointer (some (Addr.add a3 1))), (.slice x1.a x1.len x1.cap)] w2 fun e1 w3 =>
                ∃ (b2 : Bool),
                e1 = .returned (.bool b2) ∧
                brc (!b2)
                  (R (.int .i64 130) w3)
                  (Calls Pr 84 #[(.slice none 0 0), (.slice x1.a x1.len x1.cap)] w3 fun e2 w4 =>
                      ∃ (s2 : SV) (n1 : Int),
                      e2 = .returned (.tuple #[(.slice s2.a s2.len s2.cap), (.int .i64 n1)]) ∧
                      brc (n1 == (0 : Int))
                        (optK x0 fun a4 =>
                            ∃ (p1 : Option Addr),
                            At Pr w4 (loadVar 41 (Addr.add a4 0)) (.pointer p1) ∧
                            Calls Pr 33 #[(.pointer p1), (.string (⟨#[116, 109, 112]⟩ : ByteArray)), (.slice s2.a s2.len s2.cap)] w4 fun e3 w5 =>
                              ∃ (n2 : Int),
                              e3 = .returned (.int .i64 n2) ∧
                              brc (n2 != (0 : Int))
                                (∃ (s3 : SV) (b3 : Bool),
                                  At Pr w5 (loadVar 128 a2) (.agg #[(.slice s3.a s3.len s3.cap), (.bool b3)]) ∧
                                  optK x0 fun a5 =>
                                    ∃ (w6 : World),
                                    Sem.run Pr (Instr.storeAt 128 (.pointer (some (Addr.add a5 1))) (.agg #[(.slice s3.a s3.len s3.cap), (.bool b3)])) w5 = .ok () w6 ∧
                                    R (.int .i64 n2) w6)
                                (optK x0 fun a6 =>
                                    ∃ (n3 : Int),
                                    At Pr w5 (loadVar 3 (Addr.add a6 3)) (.int .i64 n3) ∧
                                    optK x0 fun a7 =>
                                      ∃ (w7 : World),
                                      Sem.run Pr (Instr.storeAt 3 (.pointer (some (Addr.add a7 3))) (.int .i64 (IntKind.wrap .i64 (n3 + 1)))) w5 = .ok () w7 ∧
                                      R (.int .i64 0) w7))
                        (brc (n1 != (0 : Int))
                            (∃ (s4 : SV) (b4 : Bool),
                              At Pr w4 (loadVar 128 a2) (.agg #[(.slice s4.a s4.len s4.cap), (.bool b4)]) ∧
                              optK x0 fun a8 =>
                                ∃ (w8 : World),
                                Sem.run Pr (Instr.storeAt 128 (.pointer (some (Addr.add a8 1))) (.agg #[(.slice s4.a s4.len s4.cap), (.bool b4)])) w4 = .ok () w8 ∧
                                R (.int .i64 n1) w8)
                            (optK x0 fun a9 =>
                                ∃ (n4 : Int),
                                At Pr w4 (loadVar 3 (Addr.add a9 3)) (.int .i64 n4) ∧
                                optK x0 fun a10 =>
                                  ∃ (w9 : World),
                                  Sem.run Pr (Instr.storeAt 3 (.pointer (some (Addr.add a10 3))) (.int .i64 (IntKind.wrap .i64 (n4 + 1)))) w4 = .ok () w9 ∧
                                  R (.int .i64 0) w9)))))

theorem call22 {x0 : Option Addr} {x1 : SV} {w0 : World} {R : Ending → World → Prop} (h : ir22 x0 x1 w0 fun v w => R (.returned v) w) : Calls Pr 22 #[.pointer x0, .slice x1.a x1.len x1.cap] w0 R := by
  refine calls_of_vc (ann := []) (E := []) (args := [.pointer x0, .slice x1.a x1.len x1.cap]) follows Try.func22 rfl (by kernel_rfl) ?_
  apply by_eq h
  kernel_rfl

/-- (*creel/run.Writer).End -/
def ir23 (x0 : Option Addr) (x1 : ByteArray) (w0 : World) (R : Value → World → Prop) : Prop :=
  brc (Option.isNone x0)
    (R (.int .i64 2) w0)
    (brc ((ByteArray.toList x1 == ByteArray.toList (⟨#[116, 109, 112]⟩ : ByteArray)))
        (R (.int .i64 1) w0)
        (brc ((ByteArray.toList x1 == ByteArray.toList (⟨#[]⟩ : ByteArray)))
            (R (.int .i64 1) w0)
            (brc (decide (((ByteArray.size x1 : Nat) : Int) > (32 : Int)))
                (R (.int .i64 1) w0)
                (optK x0 fun a1 =>
                    ∃ (p1 : Option Addr),
                    At Pr w0 (loadVar 41 (Addr.add a1 0)) (.pointer p1) ∧
                    Calls Pr 57 #[(.pointer p1), (.string (⟨#[116, 109, 112]⟩ : ByteArray))] w0 fun e1 w1 =>
                      ∃ (n1 : Int),
                      e1 = .returned (.int .i64 n1) ∧
                      brc (n1 != (0 : Int))
                        (R (.int .i64 n1) w1)
                        (optK x0 fun a2 =>
                            ∃ (p2 : Option Addr),
                            At Pr w1 (loadVar 41 (Addr.add a2 0)) (.pointer p2) ∧
                            Calls Pr 85 #[(.pointer p2), (.string (⟨#[116, 109, 112]⟩ : ByteArray)), (.string x1)] w1 fun e2 w2 =>
                              ∃ (n2 : Int),
                              e2 = .returned (.int .i64 n2) ∧
                              brc (n2 != (0 : Int))
                                (R (.int .i64 n2) w2)
                                (optK x0 fun a3 =>
                                    ∃ (p3 : Option Addr),
                                    At Pr w2 (loadVar 41 (Addr.add a3 0)) (.pointer p3) ∧
                                    Calls Pr 55 #[(.pointer p3)] w2 fun e3 w3 =>
                                      ∃ (n3 : Int),
                                      e3 = .returned (.int .i64 n3) ∧
                                      R (.int .i64 n3) w3))))))

theorem call23 {x0 : Option Addr} {x1 : ByteArray} {w0 : World} {R : Ending → World → Prop} (h : ir23 x0 x1 w0 fun v w => R (.returned v) w) : Calls Pr 23 #[.pointer x0, .string x1] w0 R := by
  refine calls_of_vc (ann := []) (E := []) (args := [.pointer x0, .string x1]) follows Try.func23 rfl (by kernel_rfl) ?_
  apply by_eq h
  kernel_rfl

/-- (*creel/run.Writer).Many -/
def ir24 (x0 : Option Addr) (w0 : World) (R : Value → World → Prop) : Prop :=
  brc (Option.isNone x0)
    (R (.int .i64 0) w0)
    (optK x0 fun a1 =>
        ∃ (n1 : Int),
        At Pr w0 (loadVar 3 (Addr.add a1 3)) (.int .i64 n1) ∧
        R (.int .i64 n1) w0)

theorem call24 {x0 : Option Addr} {w0 : World} {R : Ending → World → Prop} (h : ir24 x0 w0 fun v w => R (.returned v) w) : Calls Pr 24 #[.pointer x0] w0 R := by
  refine calls_of_vc (ann := []) (E := []) (args := [.pointer x0]) follows Try.func24 rfl (by kernel_rfl) ?_
  apply by_eq h
  kernel_rfl

/-- creel/disk.New -/
def ir25 (x0 : Int) (w0 : World) (R : Value → World → Prop) : Prop :=
  ∃ (m1 : Nat) (w1 : World),
  Sem.run Pr (Instr.makeMap 137 none) w0 = .ok (.map (some m1)) w1 ∧
  ∃ (m2 : Nat) (w2 : World),
  Sem.run Pr (Instr.makeMap 137 none) w1 = .ok (.map (some m2)) w2 ∧
  ∃ (a1 : Addr) (w3 : World),
  Sem.run Pr (Instr.box 140 (.agg #[(.map (some m1)), (.map (some m2)), (.slice none 0 0), (.int .i64 (if 0 > x0 then 0 else x0)), (.bool false), (.bool false), (.int .i64 0)])) w2 = .ok (.pointer (some a1)) w3 ∧
  R (.pointer (some a1)) w3

theorem call25 {x0 : Int} {w0 : World} {R : Ending → World → Prop} (h : ir25 x0 w0 fun v w => R (.returned v) w) : Calls Pr 25 #[.int .i64 x0] w0 R := by
  refine calls_of_vc (ann := []) (E := []) (args := [.int .i64 x0]) follows Try.func25 rfl (by kernel_rfl) ?_
  apply by_eq h
  kernel_rfl

/-- creel/run.Start -/
def ir27 (x0 : Option Addr) (w0 : World) (R : Value → World → Prop) : Prop :=
  Calls Pr 86 #[(.pointer x0), (.string (⟨#[116, 109, 112]⟩ : ByteArray))] w0 fun e1 w1 =>
    ∃ (n1 : Int),
    e1 = .returned (.int .i64 n1) ∧
    brc (n1 != (0 : Int))
      (brc (n1 != (2 : Int))
          (R (.tuple #[(.pointer none), (.int .i64 n1)]) w1)
          (Calls Pr 32 #[(.pointer x0), (.string (⟨#[116, 109, 112]⟩ : ByteArray))] w1 fun e2 w2 =>
              ∃ (n2 : Int),
              e2 = .returned (.int .i64 n2) ∧
              brc (n2 != (0 : Int))
                (R (.tuple #[(.pointer none), (.int .i64 n2)]) w2)
                (∃ (a1 : Addr) (w3 : World),
                  Sem.run Pr (Instr.box 134 (.agg #[(.pointer x0), (.slice none 0 0), (.bool false), (.int .i64 0)])) w2 = .ok (.pointer (some a1)) w3 ∧
                  R (.tuple #[(.pointer (some a1)), (.int .i64 0)]) w3)))
      (Calls Pr 32 #[(.pointer x0), (.string (⟨#[116, 109, 112]⟩ : ByteArray))] w1 fun e3 w4 =>
          ∃ (n3 : Int),
          e3 = .returned (.int .i64 n3) ∧
          brc (n3 != (0 : Int))
            (R (.tuple #[(.pointer none), (.int .i64 n3)]) w4)
            (∃ (a2 : Addr) (w5 : World),
              Sem.run Pr (Instr.box 134 (.agg #[(.pointer x0), (.slice none 0 0), (.bool false), (.int .i64 0)])) w4 = .ok (.pointer (some a2)) w5 ∧
              R (.tuple #[(.pointer (some a2)), (.int .i64 0)]) w5))

theorem call27 {x0 : Option Addr} {w0 : World} {R : Ending → World → Prop} (h : ir27 x0 w0 fun v w => R (.returned v) w) : Calls Pr 27 #[.pointer x0] w0 R := by
  refine calls_of_vc (ann := []) (E := []) (args := [.pointer x0]) follows Try.func27 rfl (by kernel_rfl) ?_
  apply by_eq h
  kernel_rfl

/-- (*creel/disk.Disk).Read -/
def ir28 (x0 : Option Addr) (x1 : ByteArray) (w0 : World) (R : Value → World → Prop) : Prop :=
  Calls Pr 87 #[(.pointer x0), (.string x1)] w0 fun e1 w1 =>
    ∃ (p1 : Option Addr) (n1 : Int),
    e1 = .returned (.tuple #[(.pointer p1), (.int .i64 n1)]) ∧
    brc (n1 != (0 : Int))
      (R (.tuple #[(.slice none 0 0), (.int .i64 n1)]) w1)
      (optK p1 fun a1 =>
          ∃ (s1 : SV),
          At Pr w1 (loadVar 26 (Addr.add a1 0)) (.slice s1.a s1.len s1.cap) ∧
          Calls Pr 88 #[(.slice s1.a s1.len s1.cap)] w1 fun e2 w2 =>
            ∃ (s2 : SV),
            e2 = .returned (.slice s2.a s2.len s2.cap) ∧
            R (.tuple #[(.slice s2.a s2.len s2.cap), (.int .i64 0)]) w2)

theorem call28 {x0 : Option Addr} {x1 : ByteArray} {w0 : World} {R : Ending → World → Prop} (h : ir28 x0 x1 w0 fun v w => R (.returned v) w) : Calls Pr 28 #[.pointer x0, .string x1] w0 R := by
  refine calls_of_vc (ann := []) (E := []) (args := [.pointer x0, .string x1]) follows Try.func28 rfl (by kernel_rfl) ?_
  apply by_eq h
  kernel_rfl

/-- (*creel/disk.Disk).Create -/
def ir32 (x0 : Option Addr) (x1 : ByteArray) (w0 : World) (R : Value → World → Prop) : Prop :=
  Calls Pr 91 #[(.pointer x0)] w0 fun e1 w1 =>
    ∃ (n1 : Int),
    e1 = .returned (.int .i64 n1) ∧
    brc (n1 != (0 : Int))
      (R (.int .i64 n1) w1)
      (Calls Pr 92 #[(.string x1)] w1 fun e2 w2 =>
          ∃ (b1 : Bool),
          e2 = .returned (.bool b1) ∧
          brc (!b1)
            (R (.int .i64 1) w2)
            (optK x0 fun a1 =>
                ∃ (m1 : Option Nat),
                At Pr w2 (loadVar 137 (Addr.add a1 0)) (.map m1) ∧
                ∃ (p1 : Option Addr),
                At Pr w2 (Instr.lookup 137 (.map m1) (.string x1) false) (.pointer p1) ∧
                brc (!(Option.isNone p1))
                  (R (.int .i64 4) w2)
                  (∃ (a2 : Addr) (w3 : World),
                    Sem.run Pr (Instr.box 146 (.agg #[(.slice none 0 0), (.int .i64 0)])) w2 = .ok (.pointer (some a2)) w3 ∧
                    Calls Pr 93 #[(.pointer x0), (.agg #[(.string ByteArray.empty), (.string x1), (.pointer (some a2))])] w3 fun e3 w4 =>
                      e3 = .returned (.tuple #[]) ∧
                      R (.int .i64 0) w4)))

theorem call32 {x0 : Option Addr} {x1 : ByteArray} {w0 : World} {R : Ending → World → Prop} (h : ir32 x0 x1 w0 fun v w => R (.returned v) w) : Calls Pr 32 #[.pointer x0, .string x1] w0 R := by
  refine calls_of_vc (ann := []) (E := []) (args := [.pointer x0, .string x1]) follows Try.func32 rfl (by kernel_rfl) ?_
  apply by_eq h
  kernel_rfl

/-- (*creel/disk.Disk).Append -/
def ir33 (x0 : Option Addr) (x1 : ByteArray) (x2 : SV) (w0 : World) (R : Value → World → Prop) : Prop :=
  Calls Pr 87 #[(.pointer x0), (.string x1)] w0 fun e1 w1 =>
    ∃ (p1 : Option Addr) (n1 : Int),
    e1 = .returned (.tuple #[(.pointer p1), (.int .i64 n1)]) ∧
    brc (n1 != (0 : Int))
      (R (.int .i64 n1) w1)
      (∃ (S1 : World → Prop),
        S1 (World.drew w1) ∧
        optK x0 fun a1 =>
          ∃ (n2 : Int),
          AtS Pr S1 (loadVar 3 (Addr.add a1 3)) (.int .i64 n2) ∧
          Calls Pr 40 #[(.pointer x0)] (World.drew w1) fun e2 w2 =>
            ∃ (n3 : Int),
            e2 = .returned (.int .i64 n3) ∧
            ∃ (S2 : World → Prop),
            (∀ w, S2 w → S1 w) ∧
            S2 w2 ∧
            brc (decide ((IntKind.wrap .i64 (n3 + ((x2.len : Nat) : Int))) > n2))
              (R (.int .i64 41) w2)
              (optK p1 fun a2 =>
                  ∃ (s1 : SV),
                  At Pr w2 (loadVar 26 (Addr.add a2 0)) (.slice s1.a s1.len s1.cap) ∧
                  ∃ (s2 : SV) (w3 : World),
                  Sem.run Pr (Instr.buildSlice 22 2 #[(0, (.slice s1.a s1.len s1.cap)), (1, (.slice x2.a x2.len x2.cap))]) w2 = .ok (.slice s2.a s2.len s2.cap) w3 ∧
                  Calls Pr 94 #[(.slice s2.a s2.len s2.cap)] w3 fun e3 w4 =>
                    ∃ (s3 : SV),
                    e3 = .returned (.slice s3.a s3.len s3.cap) ∧
                    optK p1 fun a3 =>
                      ∃ (w5 : World),
                      Sem.run Pr (Instr.storeAt 26 (.pointer (some (Addr.add a3 0))) (.slice s3.a s3.len s3.cap)) w4 = .ok () w5 ∧
                      R (.int .i64 0) w5))

theorem call33 {x0 : Option Addr} {x1 : ByteArray} {x2 : SV} {w0 : World} {R : Ending → World → Prop} (h : ir33 x0 x1 x2 w0 fun v w => R (.returned v) w) : Calls Pr 33 #[.pointer x0, .string x1, .slice x2.a x2.len x2.cap] w0 R := by
  refine calls_of_vc (ann := []) (E := []) (args := [.pointer x0, .string x1, .slice x2.a x2.len x2.cap]) follows Try.func33 rfl (by kernel_rfl) ?_
  apply by_eq h
  kernel_rfl

/-- (*creel/disk.Disk).Used -/
def ir40 (x0 : Option Addr) (w0 : World) (R : Value → World → Prop) : Prop :=
  brc (Option.isNone x0)
    (R (.int .i64 0) w0)
    (∃ (m1 : Nat) (w1 : World),
      Sem.run Pr (Instr.makeMap 160 none) w0 = .ok (.map (some m1)) w1 ∧
      optK x0 fun a1 =>
        ∃ (m2 : Option Nat),
        At Pr w1 (loadVar 137 (Addr.add a1 1)) (.map m2) ∧
        ∃ (a2 : Addr) (w2 : World),
        Sem.run Pr (Instr.range 137 (.map m2)) w1 = .ok (.pointer (some a2)) w2 ∧
        LoopT (σ := Unit) (fun σ1 w3 K1 =>
          ∀ _ : Env,
          NextM Pr (.pointer (some a2)) 0 w3
            (fun w4 =>
              optK x0 fun a3 =>
                ∃ (s1 : SV),
                At Pr w4 (loadVar 138 (Addr.add a3 2)) (.slice s1.a s1.len s1.cap) ∧
                LoopT (σ := Int × Unit) (fun σ2 w6 K2 =>
                  ∀ _ : Env,
                  brc (decide (σ2.1 < ((s1.len : Nat) : Int)))
                    (((0 : Int) ≤ σ2.1 ∧ σ2.1 < ((s1.len : Nat) : Int)) ∧
                      optK s1.a fun a4 =>
                        ∃ (str1 : ByteArray) (str2 : ByteArray) (p1 : Option Addr),
                        At Pr w6 (loadVar 153 (Addr.add a4 (Int.toNat σ2.1 * 3))) (.agg #[(.string str1), (.string str2), (.pointer p1)]) ∧
                        ∃ (a5 : Addr) (w7 : World),
                        Sem.run Pr (Instr.alloc 153 true (.tuple #[])) w6 = .ok (.pointer (some a5)) w7 ∧
                        ∃ (w8 : World),
                        Sem.run Pr (Instr.storeAt 153 (.pointer (some a5)) (.agg #[(.string str1), (.string str2), (.pointer p1)])) w7 = .ok () w8 ∧
                        ∃ (str3 : ByteArray),
                        At Pr w8 (loadVar 9 (Addr.add a5 1)) (.string str3) ∧
                        brc (!(ByteArray.toList str3 == ByteArray.toList (⟨#[]⟩ : ByteArray)))
                          (∃ (p2 : Option Addr),
                            At Pr w8 (loadVar 141 (Addr.add a5 2)) (.pointer p2) ∧
                            ∃ (w9 : World),
                            Sem.run Pr (Instr.mapUpdate 160 (.map (some m1)) (.pointer p2) (.bool true)) w8 = .ok () w9 ∧
                            K2 (IntKind.wrap .i64 (σ2.1 + 1), ()) w9)
                          (K2 (IntKind.wrap .i64 (σ2.1 + 1), ()) w8))
                    (∃ (a6 : Addr) (w10 : World),
                      Sem.run Pr (Instr.range 160 (.map (some m1))) w6 = .ok (.pointer (some a6)) w10 ∧
                      LoopT (σ := Int × Unit) (fun σ3 w11 K3 =>
                        ∀ _ : Env,
                        NextM Pr (.pointer (some a6)) 0 w11
                          (fun w12 =>
                            R (.int .i64 σ3.1) w12)
                          (fun k2 v2 w13 =>
                            ∃ (p3 : Option Addr),
                            ∃ (b1 : Bool),
                            At Pr w13 (Instr.entry (.pointer (some a6))) (.tuple #[(.pointer p3), (.bool b1)]) ∧
                            optK p3 fun a7 =>
                              ∃ (s2 : SV),
                              At Pr w13 (loadVar 26 (Addr.add a7 0)) (.slice s2.a s2.len s2.cap) ∧
                              K3 (IntKind.wrap .i64 (σ3.1 + ((s2.len : Nat) : Int)), ()) w13)) (0, ()) w10)) (0, ()) w4)
            (fun k1 v1 w5 =>
              ∃ (str4 : ByteArray),
              ∃ (p4 : Option Addr),
              At Pr w5 (Instr.entry (.pointer (some a2))) (.tuple #[(.string str4), (.pointer p4)]) ∧
              ∃ (w14 : World),
              Sem.run Pr (Instr.mapUpdate 160 (.map (some m1)) (.pointer p4) (.bool true)) w5 = .ok () w14 ∧
              K1 (()) w14)) (()) w2)

theorem call40 {x0 : Option Addr} {w0 : World} {R : Ending → World → Prop} (h : ir40 x0 w0 fun v w => R (.returned v) w) : Calls Pr 40 #[.pointer x0] w0 R := by
  refine calls_of_vc (ann := [(5, []), (9, [(29, .int .i64)]), (16, [(8, .int .i64)])]) (E := [(17, 137), (41, 160)]) (args := [.pointer x0]) follows Try.func40 rfl (by kernel_rfl) ?_
  apply by_eq h
  kernel_rfl

/-- (*creel/disk.Disk).SyncNames -/
def ir55 (x0 : Option Addr) (w0 : World) (R : Value → World → Prop) : Prop :=
  Calls Pr 91 #[(.pointer x0)] w0 fun e1 w1 =>
    ∃ (n1 : Int),
    e1 = .returned (.int .i64 n1) ∧
    brc (n1 != (0 : Int))
      (R (.int .i64 n1) w1)
      (optK x0 fun a1 =>
          ∃ (m1 : Option Nat),
          At Pr w1 (loadVar 137 (Addr.add a1 0)) (.map m1) ∧
          Calls Pr 108 #[(.map m1)] w1 fun e2 w2 =>
            ∃ (m2 : Option Nat),
            e2 = .returned (.map m2) ∧
            optK x0 fun a2 =>
              ∃ (w3 : World),
              Sem.run Pr (Instr.storeAt 137 (.pointer (some (Addr.add a2 1))) (.map m2)) w2 = .ok () w3 ∧
              optK x0 fun a3 =>
                ∃ (w4 : World),
                Sem.run Pr (Instr.storeAt 138 (.pointer (some (Addr.add a3 2))) (.slice none 0 0)) w3 = .ok () w4 ∧
                R (.int .i64 0) w4)

theorem call55 {x0 : Option Addr} {w0 : World} {R : Ending → World → Prop} (h : ir55 x0 w0 fun v w => R (.returned v) w) : Calls Pr 55 #[.pointer x0] w0 R := by
  refine calls_of_vc (ann := []) (E := []) (args := [.pointer x0]) follows Try.func55 rfl (by kernel_rfl) ?_
  apply by_eq h
  kernel_rfl

/-- (*creel/disk.Disk).Sync -/
def ir57 (x0 : Option Addr) (x1 : ByteArray) (w0 : World) (R : Value → World → Prop) : Prop :=
  Calls Pr 87 #[(.pointer x0), (.string x1)] w0 fun e1 w1 =>
    ∃ (p1 : Option Addr) (n1 : Int),
    e1 = .returned (.tuple #[(.pointer p1), (.int .i64 n1)]) ∧
    brc (n1 != (0 : Int))
      (R (.int .i64 n1) w1)
      (optK p1 fun a1 =>
          ∃ (s1 : SV),
          At Pr w1 (loadVar 26 (Addr.add a1 0)) (.slice s1.a s1.len s1.cap) ∧
          optK p1 fun a2 =>
            ∃ (w2 : World),
            Sem.run Pr (Instr.storeAt 3 (.pointer (some (Addr.add a2 1))) (.int .i64 ((s1.len : Nat) : Int))) w1 = .ok () w2 ∧
            R (.int .i64 0) w2)

theorem call57 {x0 : Option Addr} {x1 : ByteArray} {w0 : World} {R : Ending → World → Prop} (h : ir57 x0 x1 w0 fun v w => R (.returned v) w) : Calls Pr 57 #[.pointer x0, .string x1] w0 R := by
  refine calls_of_vc (ann := []) (E := []) (args := [.pointer x0, .string x1]) follows Try.func57 rfl (by kernel_rfl) ?_
  apply by_eq h
  kernel_rfl

/-- creel/creelref13.Bytes -/
def ir66 (x0 : SV) (w0 : World) (R : Value → World → Prop) : Prop :=
  LoopT (σ := Int × SV × Unit) (fun σ1 w1 K1 =>
    ∀ _ : Env,
    brc (decide (σ1.1 < ((x0.len : Nat) : Int)))
      (((0 : Int) ≤ σ1.1 ∧ σ1.1 < ((x0.len : Nat) : Int)) ∧
        optK x0.a fun a1 =>
          ∃ (s1 : SV),
          At Pr w1 (loadVar 26 (Addr.add a1 (Int.toNat σ1.1 * 1))) (.slice s1.a s1.len s1.cap) ∧
          Calls Pr 70 #[(.slice σ1.2.1.a σ1.2.1.len σ1.2.1.cap), (.slice s1.a s1.len s1.cap)] w1 fun e1 w2 =>
            ∃ (s2 : SV) (n1 : Int),
            e1 = .returned (.tuple #[(.slice s2.a s2.len s2.cap), (.int .i64 n1)]) ∧
            K1 (IntKind.wrap .i64 (σ1.1 + 1), s2, ()) w2)
      (R (.slice σ1.2.1.a σ1.2.1.len σ1.2.1.cap) w1)) (0, SV.mk none 0 0, ()) w0

theorem call66 {x0 : SV} {w0 : World} {R : Ending → World → Prop} (h : ir66 x0 w0 fun v w => R (.returned v) w) : Calls Pr 66 #[.slice x0.a x0.len x0.cap] w0 R := by
  refine calls_of_vc (ann := [(3, [(4, .int .i64), (3, .slice)])]) (E := []) (args := [.slice x0.a x0.len x0.cap]) follows Try.func66 rfl (by kernel_rfl) ?_
  apply by_eq h
  kernel_rfl

/-- creel/creelref03.Put -/
def ir70 (x0 : SV) (x1 : SV) (w0 : World) (R : Value → World → Prop) : Prop :=
  brc (decide (((x1.len : Nat) : Int) > (4096 : Int)))
    (R (.tuple #[(.slice none 0 0), (.int .i64 3)]) w0)
    (Calls Pr 129 #[(.slice none 0 0), (.int .u64 (IntKind.wrap .u64 ((x1.len : Nat) : Int))), (.int .i64 4)] w0 fun e1 w1 =>
        ∃ (s1 : SV),
        e1 = .returned (.slice s1.a s1.len s1.cap) ∧
        ∃ (s2 : SV) (w2 : World),
        Sem.run Pr (Builtin.append_ #[26, 26] 26 #[(.slice s1.a s1.len s1.cap), (.slice x1.a x1.len x1.cap)]) w1 = .ok (.slice s2.a s2.len s2.cap) w2 ∧
        Calls Pr 128 #[(.slice s2.a s2.len s2.cap)] w2 fun e2 w3 =>
          ∃ (s3 : SV),
          e2 = .returned (.slice s3.a s3.len s3.cap) ∧
          ∃ (s4 : SV) (w4 : World),
          Sem.run Pr (Instr.buildSlice 26 0 #[]) w3 = .ok (.slice s4.a s4.len s4.cap) w4 ∧
          ∃ (s5 : SV) (w5 : World),
          Sem.run Pr (Builtin.append_ #[26, 26] 26 #[(.slice s4.a s4.len s4.cap), (.slice x0.a x0.len x0.cap)]) w4 = .ok (.slice s5.a s5.len s5.cap) w5 ∧
          ∃ (s6 : SV) (w6 : World),
          Sem.run Pr (Builtin.append_ #[26, 26] 26 #[(.slice s5.a s5.len s5.cap), (.slice s3.a s3.len s3.cap)]) w5 = .ok (.slice s6.a s6.len s6.cap) w6 ∧
          R (.tuple #[(.slice s6.a s6.len s6.cap), (.int .i64 0)]) w6)

theorem call70 {x0 : SV} {x1 : SV} {w0 : World} {R : Ending → World → Prop} (h : ir70 x0 x1 w0 fun v w => R (.returned v) w) : Calls Pr 70 #[.slice x0.a x0.len x0.cap, .slice x1.a x1.len x1.cap] w0 R := by
  refine calls_of_vc (ann := []) (E := []) (args := [.slice x0.a x0.len x0.cap, .slice x1.a x1.len x1.cap]) follows Try.func70 rfl (by kernel_rfl) ?_
  apply by_eq h
  kernel_rfl

/-- bytes.Equal -/
def ir81 (x0 : SV) (x1 : SV) (w0 : World) (R : Value → World → Prop) : Prop :=
  ∃ (str1 : ByteArray),
  At Pr w0 (convert 26 9 (.slice x0.a x0.len x0.cap)) (.string str1) ∧
  ∃ (str2 : ByteArray),
  At Pr w0 (convert 26 9 (.slice x1.a x1.len x1.cap)) (.string str2) ∧
  R (.bool (ByteArray.toList str1 == ByteArray.toList str2)) w0

theorem call81 {x0 : SV} {x1 : SV} {w0 : World} {R : Ending → World → Prop} (h : ir81 x0 x1 w0 fun v w => R (.returned v) w) : Calls Pr 81 #[.slice x0.a x0.len x0.cap, .slice x1.a x1.len x1.cap] w0 R := by
  refine calls_of_vc (ann := []) (E := []) (args := [.slice x0.a x0.len x0.cap, .slice x1.a x1.len x1.cap]) follows Try.func81 rfl (by kernel_rfl) ?_
  apply by_eq h
  kernel_rfl

/-- (*creel/run.order).rises -/
def ir83 (x0 : Option Addr) (x1 : SV) (w0 : World) (R : Value → World → Prop) : Prop :=
  optK x0 fun a1 =>
    ∃ (b1 : Bool),
    At Pr w0 (loadVar 4 (Addr.add a1 1)) (.bool b1) ∧
    brc (b1)
      (optK x0 fun a2 =>
          ∃ (s1 : SV),
          At Pr w0 (loadVar 26 (Addr.add a2 0)) (.slice s1.a s1.len s1.cap) ∧
          Calls Pr 136 #[(.slice s1.a s1.len s1.cap), (.slice x1.a x1.len x1.cap)] w0 fun e1 w1 =>
            ∃ (n1 : Int),
            e1 = .returned (.int .i64 n1) ∧
            brc (decide (n1 ≥ (0 : Int)))
              (R (.bool false) w1)
              (Calls Pr 88 #[(.slice x1.a x1.len x1.cap)] w1 fun e2 w2 =>
                  ∃ (s2 : SV),
                  e2 = .returned (.slice s2.a s2.len s2.cap) ∧
                  optK x0 fun a3 =>
                    ∃ (w3 : World),
                    Sem.run Pr (Instr.storeAt 26 (.pointer (some (Addr.add a3 0))) (.slice s2.a s2.len s2.cap)) w2 = .ok () w3 ∧
                    optK x0 fun a4 =>
                      ∃ (w4 : World),
                      Sem.run Pr (Instr.storeAt 4 (.pointer (some (Addr.add a4 1))) (.bool true)) w3 = .ok () w4 ∧
                      R (.bool true) w4))
      (Calls Pr 88 #[(.slice x1.a x1.len x1.cap)] w0 fun e3 w5 =>
          ∃ (s3 : SV),
          e3 = .returned (.slice s3.a s3.len s3.cap) ∧
          optK x0 fun a5 =>
            ∃ (w6 : World),
            Sem.run Pr (Instr.storeAt 26 (.pointer (some (Addr.add a5 0))) (.slice s3.a s3.len s3.cap)) w5 = .ok () w6 ∧
            optK x0 fun a6 =>
              ∃ (w7 : World),
              Sem.run Pr (Instr.storeAt 4 (.pointer (some (Addr.add a6 1))) (.bool true)) w6 = .ok () w7 ∧
              R (.bool true) w7)

theorem call83 {x0 : Option Addr} {x1 : SV} {w0 : World} {R : Ending → World → Prop} (h : ir83 x0 x1 w0 fun v w => R (.returned v) w) : Calls Pr 83 #[.pointer x0, .slice x1.a x1.len x1.cap] w0 R := by
  refine calls_of_vc (ann := []) (E := []) (args := [.pointer x0, .slice x1.a x1.len x1.cap]) follows Try.func83 rfl (by kernel_rfl) ?_
  apply by_eq h
  kernel_rfl

/-- creel/frame.Put -/
def ir84 (x0 : SV) (x1 : SV) (w0 : World) (R : Value → World → Prop) : Prop :=
  brc (decide (((x1.len : Nat) : Int) > (4096 : Int)))
    (R (.tuple #[(.slice none 0 0), (.int .i64 3)]) w0)
    (Calls Pr 138 #[(.slice none 0 0), (.int .u64 (IntKind.wrap .u64 ((x1.len : Nat) : Int))), (.int .i64 4)] w0 fun e1 w1 =>
        ∃ (s1 : SV),
        e1 = .returned (.slice s1.a s1.len s1.cap) ∧
        ∃ (s2 : SV) (w2 : World),
        Sem.run Pr (Instr.buildSlice 22 2 #[(0, (.slice s1.a s1.len s1.cap)), (1, (.slice x1.a x1.len x1.cap))]) w1 = .ok (.slice s2.a s2.len s2.cap) w2 ∧
        Calls Pr 94 #[(.slice s2.a s2.len s2.cap)] w2 fun e2 w3 =>
          ∃ (s3 : SV),
          e2 = .returned (.slice s3.a s3.len s3.cap) ∧
          Calls Pr 137 #[(.slice s3.a s3.len s3.cap)] w3 fun e3 w4 =>
            ∃ (s4 : SV),
            e3 = .returned (.slice s4.a s4.len s4.cap) ∧
            ∃ (s5 : SV) (w5 : World),
            Sem.run Pr (Instr.buildSlice 22 2 #[(0, (.slice x0.a x0.len x0.cap)), (1, (.slice s4.a s4.len s4.cap))]) w4 = .ok (.slice s5.a s5.len s5.cap) w5 ∧
            Calls Pr 94 #[(.slice s5.a s5.len s5.cap)] w5 fun e4 w6 =>
              ∃ (s6 : SV),
              e4 = .returned (.slice s6.a s6.len s6.cap) ∧
              R (.tuple #[(.slice s6.a s6.len s6.cap), (.int .i64 0)]) w6)

theorem call84 {x0 : SV} {x1 : SV} {w0 : World} {R : Ending → World → Prop} (h : ir84 x0 x1 w0 fun v w => R (.returned v) w) : Calls Pr 84 #[.slice x0.a x0.len x0.cap, .slice x1.a x1.len x1.cap] w0 R := by
  refine calls_of_vc (ann := []) (E := []) (args := [.slice x0.a x0.len x0.cap, .slice x1.a x1.len x1.cap]) follows Try.func84 rfl (by kernel_rfl) ?_
  apply by_eq h
  kernel_rfl

/-- (*creel/disk.Disk).Rename -/
def ir85 (x0 : Option Addr) (x1 : ByteArray) (x2 : ByteArray) (w0 : World) (R : Value → World → Prop) : Prop :=
  Calls Pr 87 #[(.pointer x0), (.string x1)] w0 fun e1 w1 =>
    ∃ (p1 : Option Addr) (n1 : Int),
    e1 = .returned (.tuple #[(.pointer p1), (.int .i64 n1)]) ∧
    brc (n1 != (0 : Int))
      (R (.int .i64 n1) w1)
      (Calls Pr 92 #[(.string x2)] w1 fun e2 w2 =>
          ∃ (b1 : Bool),
          e2 = .returned (.bool b1) ∧
          brc (!b1)
            (R (.int .i64 1) w2)
            (Calls Pr 93 #[(.pointer x0), (.agg #[(.string x1), (.string x2), (.pointer p1)])] w2 fun e3 w3 =>
                e3 = .returned (.tuple #[]) ∧
                R (.int .i64 0) w3))

theorem call85 {x0 : Option Addr} {x1 : ByteArray} {x2 : ByteArray} {w0 : World} {R : Ending → World → Prop} (h : ir85 x0 x1 x2 w0 fun v w => R (.returned v) w) : Calls Pr 85 #[.pointer x0, .string x1, .string x2] w0 R := by
  refine calls_of_vc (ann := []) (E := []) (args := [.pointer x0, .string x1, .string x2]) follows Try.func85 rfl (by kernel_rfl) ?_
  apply by_eq h
  kernel_rfl

/-- (*creel/disk.Disk).Remove -/
def ir86 (x0 : Option Addr) (x1 : ByteArray) (w0 : World) (R : Value → World → Prop) : Prop :=
  Calls Pr 87 #[(.pointer x0), (.string x1)] w0 fun e1 w1 =>
    ∃ (p1 : Option Addr) (n1 : Int),
    e1 = .returned (.tuple #[(.pointer p1), (.int .i64 n1)]) ∧
    brc (n1 != (0 : Int))
      (R (.int .i64 n1) w1)
      (Calls Pr 93 #[(.pointer x0), (.agg #[(.string x1), (.string ByteArray.empty), (.pointer none)])] w1 fun e2 w2 =>
          e2 = .returned (.tuple #[]) ∧
          R (.int .i64 0) w2)

theorem call86 {x0 : Option Addr} {x1 : ByteArray} {w0 : World} {R : Ending → World → Prop} (h : ir86 x0 x1 w0 fun v w => R (.returned v) w) : Calls Pr 86 #[.pointer x0, .string x1] w0 R := by
  refine calls_of_vc (ann := []) (E := []) (args := [.pointer x0, .string x1]) follows Try.func86 rfl (by kernel_rfl) ?_
  apply by_eq h
  kernel_rfl

/-- (*creel/disk.Disk).find -/
def ir87 (x0 : Option Addr) (x1 : ByteArray) (w0 : World) (R : Value → World → Prop) : Prop :=
  Calls Pr 91 #[(.pointer x0)] w0 fun e1 w1 =>
    ∃ (n1 : Int),
    e1 = .returned (.int .i64 n1) ∧
    brc (n1 != (0 : Int))
      (R (.tuple #[(.pointer none), (.int .i64 n1)]) w1)
      (optK x0 fun a1 =>
          ∃ (m1 : Option Nat),
          At Pr w1 (loadVar 137 (Addr.add a1 0)) (.map m1) ∧
          ∃ (p1 : Option Addr),
          At Pr w1 (Instr.lookup 137 (.map m1) (.string x1) false) (.pointer p1) ∧
          brc (Option.isNone p1)
            (R (.tuple #[(.pointer none), (.int .i64 2)]) w1)
            (R (.tuple #[(.pointer p1), (.int .i64 0)]) w1))

theorem call87 {x0 : Option Addr} {x1 : ByteArray} {w0 : World} {R : Ending → World → Prop} (h : ir87 x0 x1 w0 fun v w => R (.returned v) w) : Calls Pr 87 #[.pointer x0, .string x1] w0 R := by
  refine calls_of_vc (ann := []) (E := []) (args := [.pointer x0, .string x1]) follows Try.func87 rfl (by kernel_rfl) ?_
  apply by_eq h
  kernel_rfl

/-- slices.Clone[[]byte,byte] -/
def ir88 (x0 : SV) (w0 : World) (R : Value → World → Prop) : Prop :=
  ∃ (b1 : Bool),
  At Pr w0 (do eqGuard .eql 26 (.tmp 3) (.const (.slice none 0 0)) (.slice x0.a x0.len x0.cap) (.slice none 0 0); binOp .eql 26 (.slice x0.a x0.len x0.cap) (.slice none 0 0)) (.bool b1) ∧
  brc (b1)
    (R (.slice none 0 0) w0)
    (∃ (s1 : SV) (w1 : World),
      Sem.run Pr (Instr.buildSlice 26 0 #[]) w0 = .ok (.slice s1.a s1.len s1.cap) w1 ∧
      ∃ (s2 : SV) (w2 : World),
      Sem.run Pr (Builtin.append_ #[26, 26] 26 #[(.slice s1.a s1.len s1.cap), (.slice x0.a x0.len x0.cap)]) w1 = .ok (.slice s2.a s2.len s2.cap) w2 ∧
      R (.slice s2.a s2.len s2.cap) w2)

theorem call88 {x0 : SV} {w0 : World} {R : Ending → World → Prop} (h : ir88 x0 w0 fun v w => R (.returned v) w) : Calls Pr 88 #[.slice x0.a x0.len x0.cap] w0 R := by
  refine calls_of_vc (ann := []) (E := []) (args := [.slice x0.a x0.len x0.cap]) follows Try.func88 rfl (by kernel_rfl) ?_
  apply by_eq h
  kernel_rfl

/-- (*creel/disk.Disk).ready -/
def ir91 (x0 : Option Addr) (w0 : World) (R : Value → World → Prop) : Prop :=
  brc (Option.isNone x0)
    (R (.int .i64 2) w0)
    (optK x0 fun a1 =>
        ∃ (b1 : Bool),
        At Pr w0 (loadVar 4 (Addr.add a1 4)) (.bool b1) ∧
        brc (b1)
          (R (.int .i64 40) w0)
          (optK x0 fun a2 =>
              ∃ (b2 : Bool),
              At Pr w0 (loadVar 4 (Addr.add a2 5)) (.bool b2) ∧
              brc (b2)
                (optK x0 fun a3 =>
                    ∃ (n1 : Int),
                    At Pr w0 (loadVar 3 (Addr.add a3 6)) (.int .i64 n1) ∧
                    brc (n1 == (0 : Int))
                      (optK x0 fun a4 =>
                          ∃ (w1 : World),
                          Sem.run Pr (Instr.storeAt 4 (.pointer (some (Addr.add a4 4))) (.bool true)) w0 = .ok () w1 ∧
                          R (.int .i64 40) w1)
                      (optK x0 fun a5 =>
                          ∃ (b3 : Bool),
                          At Pr w0 (loadVar 4 (Addr.add a5 5)) (.bool b3) ∧
                          brc (b3)
                            (optK x0 fun a6 =>
                                ∃ (n2 : Int),
                                At Pr w0 (loadVar 3 (Addr.add a6 6)) (.int .i64 n2) ∧
                                optK x0 fun a7 =>
                                  ∃ (w2 : World),
                                  Sem.run Pr (Instr.storeAt 3 (.pointer (some (Addr.add a7 6))) (.int .i64 (IntKind.wrap .i64 (n2 - 1)))) w0 = .ok () w2 ∧
                                  R (.int .i64 0) w2)
                            (R (.int .i64 0) w0)))
                (optK x0 fun a8 =>
                    ∃ (b4 : Bool),
                    At Pr w0 (loadVar 4 (Addr.add a8 5)) (.bool b4) ∧
                    brc (b4)
                      (optK x0 fun a9 =>
                          ∃ (n3 : Int),
                          At Pr w0 (loadVar 3 (Addr.add a9 6)) (.int .i64 n3) ∧
                          optK x0 fun a10 =>
                            ∃ (w3 : World),
                            Sem.run Pr (Instr.storeAt 3 (.pointer (some (Addr.add a10 6))) (.int .i64 (IntKind.wrap .i64 (n3 - 1)))) w0 = .ok () w3 ∧
                            R (.int .i64 0) w3)
                      (R (.int .i64 0) w0))))

theorem call91 {x0 : Option Addr} {w0 : World} {R : Ending → World → Prop} (h : ir91 x0 w0 fun v w => R (.returned v) w) : Calls Pr 91 #[.pointer x0] w0 R := by
  refine calls_of_vc (ann := []) (E := []) (args := [.pointer x0]) follows Try.func91 rfl (by kernel_rfl) ?_
  apply by_eq h
  kernel_rfl

/-- creel/disk.right -/
def ir92 (x0 : ByteArray) (w0 : World) (R : Value → World → Prop) : Prop :=
  brc (decide (((ByteArray.size x0 : Nat) : Int) ≥ (1 : Int)))
    (R (.bool (decide (((ByteArray.size x0 : Nat) : Int) ≤ (32 : Int)))) w0)
    (R (.bool false) w0)

theorem call92 {x0 : ByteArray} {w0 : World} {R : Ending → World → Prop} (h : ir92 x0 w0 fun v w => R (.returned v) w) : Calls Pr 92 #[.string x0] w0 R := by
  refine calls_of_vc (ann := []) (E := []) (args := [.string x0]) follows Try.func92 rfl (by kernel_rfl) ?_
  apply by_eq h
  kernel_rfl

/-- (*creel/disk.Disk).changed -/
def ir93 (x0 : Option Addr) (x1_gone : ByteArray) (x1_new : ByteArray) (x1_file : Option Addr) (w0 : World) (R : Value → World → Prop) : Prop :=
  ∃ (a1 : Addr) (w1 : World),
  Sem.run Pr (Instr.box 153 (.agg #[(.string x1_gone), (.string x1_new), (.pointer x1_file)])) w0 = .ok (.pointer (some a1)) w1 ∧
  ∃ (S1 : World → Prop),
  S1 (World.drew w1) ∧
  optK x0 fun a2 =>
    ∃ (m1 : Option Nat),
    AtS Pr S1 (loadVar 137 (Addr.add a2 0)) (.map m1) ∧
    ∃ (str1 : ByteArray) (str2 : ByteArray) (p1 : Option Addr),
    AtS Pr S1 (loadVar 153 a1) (.agg #[(.string str1), (.string str2), (.pointer p1)]) ∧
    Calls Pr 109 #[(.map m1), (.agg #[(.string str1), (.string str2), (.pointer p1)])] (World.drew w1) fun e1 w2 =>
      e1 = .returned (.tuple #[]) ∧
      ∃ (S2 : World → Prop),
      S2 w2 ∧
      ∃ (S3 : World → Prop),
      S3 (World.drew w2) ∧
      optK x0 fun a3 =>
        ∃ (s1 : SV),
        AtS Pr S3 (loadVar 138 (Addr.add a3 2)) (.slice s1.a s1.len s1.cap) ∧
        ∃ (str3 : ByteArray) (str4 : ByteArray) (p2 : Option Addr),
        AtS Pr S3 (loadVar 153 a1) (.agg #[(.string str3), (.string str4), (.pointer p2)]) ∧
        ∃ (s2 : SV) (w3 : World),
        Sem.run Pr (Instr.buildSlice 138 1 #[(0, (.agg #[(.string str3), (.string str4), (.pointer p2)]))]) (World.drew w2) = .ok (.slice s2.a s2.len s2.cap) w3 ∧
        ∃ (S4 : World → Prop),
        (∀ w, S4 w → S3 w) ∧
        S4 w3 ∧
        ∃ (s3 : SV) (w4 : World),
        Sem.run Pr (Builtin.append_ #[138, 138] 138 #[(.slice s1.a s1.len s1.cap), (.slice s2.a s2.len s2.cap)]) w3 = .ok (.slice s3.a s3.len s3.cap) w4 ∧
        ∃ (S5 : World → Prop),
        (∀ w, S5 w → S4 w) ∧
        S5 w4 ∧
        optK x0 fun a4 =>
          ∃ (w5 : World),
          Sem.run Pr (Instr.storeAt 138 (.pointer (some (Addr.add a4 2))) (.slice s3.a s3.len s3.cap)) w4 = .ok () w5 ∧
          ∃ (S6 : World → Prop),
          S6 w5 ∧
          R (.tuple #[]) w5

theorem call93 {x0 : Option Addr} {x1_gone : ByteArray} {x1_new : ByteArray} {x1_file : Option Addr} {w0 : World} {R : Ending → World → Prop} (h : ir93 x0 x1_gone x1_new x1_file w0 fun v w => R (.returned v) w) : Calls Pr 93 #[.pointer x0, .agg #[(.string x1_gone), (.string x1_new), (.pointer x1_file)]] w0 R := by
  refine calls_of_vc (ann := []) (E := []) (args := [.pointer x0, .agg #[(.string x1_gone), (.string x1_new), (.pointer x1_file)]]) follows Try.func93 rfl (by kernel_rfl) ?_
  apply by_eq h
  kernel_rfl

/-- slices.Concat[[]byte,byte] -/
def ir94 (x0 : SV) (w0 : World) (R : Value → World → Prop) : Prop :=
  LoopT (σ := Int × Int × Unit) (fun σ1 w1 K1 =>
    ∀ _ : Env,
    brc (decide (σ1.1 < ((x0.len : Nat) : Int)))
      (((0 : Int) ≤ σ1.1 ∧ σ1.1 < ((x0.len : Nat) : Int)) ∧
        optK x0.a fun a1 =>
          ∃ (s1 : SV),
          At Pr w1 (loadVar 26 (Addr.add a1 (Int.toNat σ1.1 * 1))) (.slice s1.a s1.len s1.cap) ∧
          brc (decide ((IntKind.wrap .i64 (σ1.2.1 + ((s1.len : Nat) : Int))) < (0 : Int)))
            (∃ (v1 : Value),
              At Pr w1 (Instr.makeInterface 9 (.string (⟨#[108, 101, 110, 32, 111, 117, 116, 32, 111, 102, 32, 114, 97, 110, 103, 101]⟩ : ByteArray))) v1 ∧
              False)
            (K1 (IntKind.wrap .i64 (σ1.1 + 1), IntKind.wrap .i64 (σ1.2.1 + ((s1.len : Nat) : Int)), ()) w1))
      (Calls Pr 140 #[(.slice none 0 0), (.int .i64 σ1.2.1)] w1 fun e1 w2 =>
          ∃ (s2 : SV),
          e1 = .returned (.slice s2.a s2.len s2.cap) ∧
          LoopT (σ := Int × SV × Unit) (fun σ2 w3 K2 =>
            ∀ _ : Env,
            brc (decide (σ2.1 < ((x0.len : Nat) : Int)))
              (((0 : Int) ≤ σ2.1 ∧ σ2.1 < ((x0.len : Nat) : Int)) ∧
                optK x0.a fun a2 =>
                  ∃ (s3 : SV),
                  At Pr w3 (loadVar 26 (Addr.add a2 (Int.toNat σ2.1 * 1))) (.slice s3.a s3.len s3.cap) ∧
                  ∃ (s4 : SV) (w4 : World),
                  Sem.run Pr (Builtin.append_ #[26, 26] 26 #[(.slice σ2.2.1.a σ2.2.1.len σ2.2.1.cap), (.slice s3.a s3.len s3.cap)]) w3 = .ok (.slice s4.a s4.len s4.cap) w4 ∧
                  K2 (IntKind.wrap .i64 (σ2.1 + 1), s4, ()) w4)
              (R (.slice σ2.2.1.a σ2.2.1.len σ2.2.1.cap) w3)) (0, s2, ()) w2)) (0, 0, ()) w0

theorem call94 {x0 : SV} {w0 : World} {R : Ending → World → Prop} (h : ir94 x0 w0 fun v w => R (.returned v) w) : Calls Pr 94 #[.slice x0.a x0.len x0.cap] w0 R := by
  refine calls_of_vc (ann := [(3, [(11, .int .i64), (3, .int .i64)]), (11, [(27, .int .i64), (6, .slice)])]) (E := []) (args := [.slice x0.a x0.len x0.cap]) follows Try.func94 rfl (by kernel_rfl) ?_
  apply by_eq h
  kernel_rfl

/-- maps.Clone[creel/disk.names,string,*creel/disk.file] -/
def ir108 (x0 : Option Nat) (w0 : World) (R : Value → World → Prop) : Prop :=
  ∃ (b1 : Bool),
  At Pr w0 (do eqGuard .eql 137 (.tmp 3) (.const (.map none)) (.map x0) (.map none); binOp .eql 137 (.map x0) (.map none)) (.bool b1) ∧
  brc (b1)
    (R (.map none) w0)
    (∃ (v1 : Value),
      At Pr w0 (Instr.makeInterface 137 (.map x0)) v1 ∧
      Does Pr (callFunc 145 #[v1]) w0 fun v2 w1 =>
        ∃ (m1 : Option Nat),
        At Pr w1 (Instr.typeAssert v2 20 137 false) (.map m1) ∧
        R (.map m1) w1)

set_option maxRecDepth 100000 in
theorem call108 {x0 : Option Nat} {w0 : World} {R : Ending → World → Prop} (h : ir108 x0 w0 fun v w => R (.returned v) w) : Calls Pr 108 #[.map x0] w0 R := by
  refine calls_of_vc (ann := []) (E := []) (args := [.map x0]) follows Try.func108 rfl (by kernel_rfl) ?_
  apply by_eq h
  kernel_rfl

/-- (creel/disk.names).do -/
def ir109 (x0 : Option Nat) (x1_gone : ByteArray) (x1_new : ByteArray) (x1_file : Option Addr) (w0 : World) (R : Value → World → Prop) : Prop :=
  ∃ (a1 : Addr) (w1 : World),
  Sem.run Pr (Instr.box 153 (.agg #[(.string x1_gone), (.string x1_new), (.pointer x1_file)])) w0 = .ok (.pointer (some a1)) w1 ∧
  ∃ (str1 : ByteArray),
  At Pr w1 (loadVar 9 (Addr.add a1 0)) (.string str1) ∧
  ∃ (w2 : World),
  Sem.run Pr (Builtin.delete_ #[137, 9] 0 #[(.map x0), (.string str1)]) w1 = .ok (.tuple #[]) w2 ∧
  ∃ (str2 : ByteArray),
  At Pr w2 (loadVar 9 (Addr.add a1 1)) (.string str2) ∧
  brc (!(ByteArray.toList str2 == ByteArray.toList (⟨#[]⟩ : ByteArray)))
    (∃ (str3 : ByteArray),
      At Pr w2 (loadVar 9 (Addr.add a1 1)) (.string str3) ∧
      ∃ (p1 : Option Addr),
      At Pr w2 (loadVar 141 (Addr.add a1 2)) (.pointer p1) ∧
      ∃ (w3 : World),
      Sem.run Pr (Instr.mapUpdate 137 (.map x0) (.string str3) (.pointer p1)) w2 = .ok () w3 ∧
      R (.tuple #[]) w3)
    (R (.tuple #[]) w2)

theorem call109 {x0 : Option Nat} {x1_gone : ByteArray} {x1_new : ByteArray} {x1_file : Option Addr} {w0 : World} {R : Ending → World → Prop} (h : ir109 x0 x1_gone x1_new x1_file w0 fun v w => R (.returned v) w) : Calls Pr 109 #[.map x0, .agg #[(.string x1_gone), (.string x1_new), (.pointer x1_file)]] w0 R := by
  refine calls_of_vc (ann := []) (E := []) (args := [.map x0, .agg #[(.string x1_gone), (.string x1_new), (.pointer x1_file)]]) follows Try.func109 rfl (by kernel_rfl) ?_
  apply by_eq h
  kernel_rfl

/-- creel/creelref03.Seal -/
def ir128 (x0 : SV) (w0 : World) (R : Value → World → Prop) : Prop :=
  Calls Pr 150 #[(.slice x0.a x0.len x0.cap)] w0 fun e1 w1 =>
    ∃ (n1 : Int),
    e1 = .returned (.int .u32 n1) ∧
    ∃ (s1 : SV) (w2 : World),
    Sem.run Pr (Instr.buildSlice 26 0 #[]) w1 = .ok (.slice s1.a s1.len s1.cap) w2 ∧
    ∃ (s2 : SV) (w3 : World),
    Sem.run Pr (Builtin.append_ #[26, 26] 26 #[(.slice s1.a s1.len s1.cap), (.slice x0.a x0.len x0.cap)]) w2 = .ok (.slice s2.a s2.len s2.cap) w3 ∧
    (256 : Int) ≠ 0 ∧
    (256 : Int) ≠ 0 ∧
    (256 : Int) ≠ 0 ∧
    (65536 : Int) ≠ 0 ∧
    (256 : Int) ≠ 0 ∧
    (16777216 : Int) ≠ 0 ∧
    ∃ (s3 : SV) (w4 : World),
    Sem.run Pr (Instr.buildSlice 26 4 #[(0, (.int .u8 (IntKind.wrap .u8 (Int.tmod n1 256)))), (1, (.int .u8 (IntKind.wrap .u8 (Int.tmod (IntKind.wrap .u32 (Int.tdiv n1 256)) 256)))), (2, (.int .u8 (IntKind.wrap .u8 (Int.tmod (IntKind.wrap .u32 (Int.tdiv n1 65536)) 256)))), (3, (.int .u8 (IntKind.wrap .u8 (IntKind.wrap .u32 (Int.tdiv n1 16777216)))))]) w3 = .ok (.slice s3.a s3.len s3.cap) w4 ∧
    ∃ (s4 : SV) (w5 : World),
    Sem.run Pr (Builtin.append_ #[26, 26] 26 #[(.slice s2.a s2.len s2.cap), (.slice s3.a s3.len s3.cap)]) w4 = .ok (.slice s4.a s4.len s4.cap) w5 ∧
    R (.slice s4.a s4.len s4.cap) w5

theorem call128 {x0 : SV} {w0 : World} {R : Ending → World → Prop} (h : ir128 x0 w0 fun v w => R (.returned v) w) : Calls Pr 128 #[.slice x0.a x0.len x0.cap] w0 R := by
  refine calls_of_vc (ann := []) (E := []) (args := [.slice x0.a x0.len x0.cap]) follows Try.func128 rfl (by kernel_rfl) ?_
  apply by_eq h
  kernel_rfl

/-- creel/creelref01.Fix -/
def ir129 (x0 : SV) (x1 : Int) (x2 : Int) (w0 : World) (R : Value → World → Prop) : Prop :=
  ∃ (s1 : SV) (w1 : World),
  Sem.run Pr (Instr.buildSlice 26 0 #[]) w0 = .ok (.slice s1.a s1.len s1.cap) w1 ∧
  ∃ (s2 : SV) (w2 : World),
  Sem.run Pr (Builtin.append_ #[26, 26] 26 #[(.slice s1.a s1.len s1.cap), (.slice x0.a x0.len x0.cap)]) w1 = .ok (.slice s2.a s2.len s2.cap) w2 ∧
  brc (decide (x2 < (1 : Int)))
    (R (.slice s2.a s2.len s2.cap) w2)
    (brc (decide (x2 > (8 : Int)))
        (R (.slice s2.a s2.len s2.cap) w2)
        (LoopT (σ := Int × SV × Unit) (fun σ1 w3 K1 =>
            ∀ _ : Env,
            brc (decide (σ1.1 ≥ (0 : Int)))
              (LoopT (σ := Int × Int × Unit) (fun σ2 w4 K2 =>
                  ∀ _ : Env,
                  brc (decide (σ2.1 < σ1.1))
                    ((256 : Int) ≠ 0 ∧
                      K2 (IntKind.wrap .i64 (σ2.1 + 1), IntKind.wrap .u64 (Int.tdiv σ2.2.1 256), ()) w4)
                    ((256 : Int) ≠ 0 ∧
                      ∃ (s3 : SV) (w5 : World),
                      Sem.run Pr (Instr.buildSlice 26 1 #[(0, (.int .u8 (IntKind.wrap .u8 (Int.tmod σ2.2.1 256))))]) w4 = .ok (.slice s3.a s3.len s3.cap) w5 ∧
                      ∃ (s4 : SV) (w6 : World),
                      Sem.run Pr (Builtin.append_ #[26, 26] 26 #[(.slice σ1.2.1.a σ1.2.1.len σ1.2.1.cap), (.slice s3.a s3.len s3.cap)]) w5 = .ok (.slice s4.a s4.len s4.cap) w6 ∧
                      K1 (IntKind.wrap .i64 (σ1.1 - 1), s4, ()) w6)) (0, x1, ()) w3)
              (R (.slice σ1.2.1.a σ1.2.1.len σ1.2.1.cap) w3)) (IntKind.wrap .i64 (x2 - 1), s2, ()) w2))

theorem call129 {x0 : SV} {x1 : Int} {x2 : Int} {w0 : World} {R : Ending → World → Prop} (h : ir129 x0 x1 x2 w0 fun v w => R (.returned v) w) : Calls Pr 129 #[.slice x0.a x0.len x0.cap, .int .u64 x1, .int .i64 x2] w0 R := by
  refine calls_of_vc (ann := [(5, [(8, .int .i64), (7, .slice)]), (9, [(10, .int .i64), (9, .int .u64)])]) (E := []) (args := [.slice x0.a x0.len x0.cap, .int .u64 x1, .int .i64 x2]) follows Try.func129 rfl (by kernel_rfl) ?_
  apply by_eq h
  kernel_rfl

/-- bytes.Compare -/
def ir136 (x0 : SV) (x1 : SV) (w0 : World) (R : Value → World → Prop) : Prop :=
  Does Pr (callFunc 155 #[(.slice x0.a x0.len x0.cap), (.slice x1.a x1.len x1.cap)]) w0 fun v1 w1 =>
    R v1 w1

set_option maxRecDepth 100000 in
theorem call136 {x0 : SV} {x1 : SV} {w0 : World} {R : Ending → World → Prop} (h : ir136 x0 x1 w0 fun v w => R (.returned v) w) : Calls Pr 136 #[.slice x0.a x0.len x0.cap, .slice x1.a x1.len x1.cap] w0 R := by
  refine calls_of_vc (ann := []) (E := []) (args := [.slice x0.a x0.len x0.cap, .slice x1.a x1.len x1.cap]) follows Try.func136 rfl (by kernel_rfl) ?_
  apply by_eq h
  kernel_rfl

/-- creel/frame.Seal -/
def ir137 (x0 : SV) (w0 : World) (R : Value → World → Prop) : Prop :=
  ∃ (s1 : SV) (w1 : World),
  Sem.run Pr (Instr.makeSlice 26 (.int .i64 (IntKind.wrap .i64 (((x0.len : Nat) : Int) + 4))) (.int .i64 (IntKind.wrap .i64 (((x0.len : Nat) : Int) + 4)))) w0 = .ok (.slice s1.a s1.len s1.cap) w1 ∧
  ∃ (n1 : Int) (w2 : World),
  Sem.run Pr (Builtin.copy_ #[26, 26] 3 #[(.slice s1.a s1.len s1.cap), (.slice x0.a x0.len x0.cap)]) w1 = .ok (.int .i64 n1) w2 ∧
  Calls Pr 156 #[(.slice x0.a x0.len x0.cap)] w2 fun e1 w3 =>
    ∃ (n2 : Int),
    e1 = .returned (.int .u32 n2) ∧
    ((0 : Int) ≤ ((x0.len : Nat) : Int) ∧ ((x0.len : Nat) : Int) ≤ ((s1.len : Nat) : Int)) ∧
    LoopT (σ := Int × Unit) (fun σ1 w4 K1 =>
      ∀ _ : Env,
      brc (decide (σ1.1 < ((s1.len - (Int.toNat ((x0.len : Nat) : Int)) : Nat) : Int)))
        ((0 : Int) ≤ (IntKind.wrap .i64 (8 * σ1.1)) ∧
          ((0 : Int) ≤ (IntKind.wrap .i64 (((x0.len : Nat) : Int) + σ1.1)) ∧ (IntKind.wrap .i64 (((x0.len : Nat) : Int) + σ1.1)) < ((s1.len : Nat) : Int)) ∧
          optK s1.a fun a1 =>
            ∃ (w5 : World),
            Sem.run Pr (Instr.storeAt 5 (.pointer (some (Addr.add a1 (Int.toNat (IntKind.wrap .i64 (((x0.len : Nat) : Int) + σ1.1)) * 1)))) (.int .u8 (IntKind.wrap .u8 (Int.fdiv n2 (2 ^ (min (Int.toNat (IntKind.wrap .i64 (8 * σ1.1))) (IntKind.bits .u32))))))) w4 = .ok () w5 ∧
            K1 (IntKind.wrap .i64 (σ1.1 + 1), ()) w5)
        (R (.slice s1.a s1.len s1.cap) w4)) (0, ()) w3

theorem call137 {x0 : SV} {w0 : World} {R : Ending → World → Prop} (h : ir137 x0 w0 fun v w => R (.returned v) w) : Calls Pr 137 #[.slice x0.a x0.len x0.cap] w0 R := by
  refine calls_of_vc (ann := [(5, [(20, .int .i64)])]) (E := []) (args := [.slice x0.a x0.len x0.cap]) follows Try.func137 rfl (by kernel_rfl) ?_
  apply by_eq h
  kernel_rfl

/-- creel/vary.Fix -/
def ir138 (x0 : SV) (x1 : Int) (x2 : Int) (w0 : World) (R : Value → World → Prop) : Prop :=
  Calls Pr 88 #[(.slice x0.a x0.len x0.cap)] w0 fun e1 w1 =>
    ∃ (s1 : SV),
    e1 = .returned (.slice s1.a s1.len s1.cap) ∧
    brc (decide (x2 < (1 : Int)))
      (R (.slice s1.a s1.len s1.cap) w1)
      (brc (decide (x2 > (8 : Int)))
          (R (.slice s1.a s1.len s1.cap) w1)
          (LoopT (σ := Int × SV × Unit) (fun σ1 w2 K1 =>
              ∀ _ : Env,
              brc (decide (σ1.1 ≥ (0 : Int)))
                ((0 : Int) ≤ (IntKind.wrap .i64 (8 * σ1.1)) ∧
                  ∃ (s2 : SV) (w3 : World),
                  Sem.run Pr (Instr.buildSlice 26 1 #[(0, (.int .u8 (IntKind.wrap .u8 (Int.fdiv x1 (2 ^ (min (Int.toNat (IntKind.wrap .i64 (8 * σ1.1))) (IntKind.bits .u64)))))))]) w2 = .ok (.slice s2.a s2.len s2.cap) w3 ∧
                  ∃ (s3 : SV) (w4 : World),
                  Sem.run Pr (Builtin.append_ #[26, 26] 26 #[(.slice σ1.2.1.a σ1.2.1.len σ1.2.1.cap), (.slice s2.a s2.len s2.cap)]) w3 = .ok (.slice s3.a s3.len s3.cap) w4 ∧
                  K1 (IntKind.wrap .i64 (σ1.1 - 1), s3, ()) w4)
                (R (.slice σ1.2.1.a σ1.2.1.len σ1.2.1.cap) w2)) (IntKind.wrap .i64 (x2 - 1), s1, ()) w1))

theorem call138 {x0 : SV} {x1 : Int} {x2 : Int} {w0 : World} {R : Ending → World → Prop} (h : ir138 x0 x1 x2 w0 fun v w => R (.returned v) w) : Calls Pr 138 #[.slice x0.a x0.len x0.cap, .int .u64 x1, .int .i64 x2] w0 R := by
  refine calls_of_vc (ann := [(5, [(8, .int .i64), (7, .slice)])]) (E := []) (args := [.slice x0.a x0.len x0.cap, .int .u64 x1, .int .i64 x2]) follows Try.func138 rfl (by kernel_rfl) ?_
  apply by_eq h
  kernel_rfl

/-- slices.Grow[[]byte,byte] -/
def ir140 (x0 : SV) (x1 : Int) (w0 : World) (R : Value → World → Prop) : Prop :=
  brc (decide (x1 < (0 : Int)))
    (∃ (v1 : Value),
      At Pr w0 (Instr.makeInterface 9 (.string (⟨#[99, 97, 110, 110, 111, 116, 32, 98, 101, 32, 110, 101, 103, 97, 116, 105, 118, 101]⟩ : ByteArray))) v1 ∧
      False)
    (∃ (n1 : Int),
      At Pr w0 (Builtin.cap_ #[26] 3 #[(.slice x0.a x0.len x0.cap)]) (.int .i64 n1) ∧
      brc (decide ((IntKind.wrap .i64 (x1 - (IntKind.wrap .i64 (n1 - ((x0.len : Nat) : Int))))) > (0 : Int)))
        (∃ (n2 : Int),
          At Pr w0 (Builtin.cap_ #[26] 3 #[(.slice x0.a x0.len x0.cap)]) (.int .i64 n2) ∧
          ((0 : Int) ≤ n2 ∧ n2 ≤ ((x0.cap : Nat) : Int)) ∧
          ∃ (s1 : SV) (w1 : World),
          Sem.run Pr (Builtin.append_ #[26, 3] 26 #[(.slice (cutAt x0.a 0 x0.cap 1) ((Int.toNat n2) - 0) (x0.cap - 0)), (.int .i64 (IntKind.wrap .i64 (x1 - (IntKind.wrap .i64 (n1 - ((x0.len : Nat) : Int))))))]) w0 = .ok (.slice s1.a s1.len s1.cap) w1 ∧
          ((0 : Int) ≤ ((x0.len : Nat) : Int) ∧ ((x0.len : Nat) : Int) ≤ ((s1.cap : Nat) : Int)) ∧
          R (.slice (cutAt s1.a 0 s1.cap 1) ((Int.toNat ((x0.len : Nat) : Int)) - 0) (s1.cap - 0)) w1)
        (R (.slice x0.a x0.len x0.cap) w0))

theorem call140 {x0 : SV} {x1 : Int} {w0 : World} {R : Ending → World → Prop} (h : ir140 x0 x1 w0 fun v w => R (.returned v) w) : Calls Pr 140 #[.slice x0.a x0.len x0.cap, .int .i64 x1] w0 R := by
  refine calls_of_vc (ann := []) (E := []) (args := [.slice x0.a x0.len x0.cap, .int .i64 x1]) follows Try.func140 rfl (by kernel_rfl) ?_
  apply by_eq h
  kernel_rfl

/-- creel/creelref02.Sum -/
def ir150 (x0 : SV) (w0 : World) (R : Value → World → Prop) : Prop :=
  Calls Pr 162 #[(.int .u32 0), (.slice x0.a x0.len x0.cap)] w0 fun e1 w1 =>
    ∃ (n1 : Int),
    e1 = .returned (.int .u32 n1) ∧
    R (.int .u32 n1) w1

theorem call150 {x0 : SV} {w0 : World} {R : Ending → World → Prop} (h : ir150 x0 w0 fun v w => R (.returned v) w) : Calls Pr 150 #[.slice x0.a x0.len x0.cap] w0 R := by
  refine calls_of_vc (ann := []) (E := []) (args := [.slice x0.a x0.len x0.cap]) follows Try.func150 rfl (by kernel_rfl) ?_
  apply by_eq h
  kernel_rfl

/-- creel/crc.Sum -/
def ir156 (x0 : SV) (w0 : World) (R : Value → World → Prop) : Prop :=
  Calls Pr 167 #[(.int .u32 0), (.slice x0.a x0.len x0.cap)] w0 fun e1 w1 =>
    ∃ (n1 : Int),
    e1 = .returned (.int .u32 n1) ∧
    R (.int .u32 n1) w1

theorem call156 {x0 : SV} {w0 : World} {R : Ending → World → Prop} (h : ir156 x0 w0 fun v w => R (.returned v) w) : Calls Pr 156 #[.slice x0.a x0.len x0.cap] w0 R := by
  refine calls_of_vc (ann := []) (E := []) (args := [.slice x0.a x0.len x0.cap]) follows Try.func156 rfl (by kernel_rfl) ?_
  apply by_eq h
  kernel_rfl

/-- creel/creelref02.Add -/
def ir162 (x0 : Int) (x1 : SV) (w0 : World) (R : Value → World → Prop) : Prop :=
  LoopT (σ := Int × Int × Unit) (fun σ1 w1 K1 =>
    ∀ _ : Env,
    brc (decide (σ1.1 < ((x1.len : Nat) : Int)))
      (((0 : Int) ≤ σ1.1 ∧ σ1.1 < ((x1.len : Nat) : Int)) ∧
        optK x1.a fun a1 =>
          ∃ (n1 : Int),
          At Pr w1 (loadVar 5 (Addr.add a1 (Int.toNat σ1.1 * 1))) (.int .u8 n1) ∧
          (256 : Int) ≠ 0 ∧
          Calls Pr 179 #[(.int .u32 (Int.tmod (IntKind.wrap .u32 ((BitVec.ofInt (IntKind.bits .u32) σ1.2.1 ^^^ BitVec.ofInt (IntKind.bits .u32) (IntKind.wrap .u32 n1)).toNat)) 256))] w1 fun e1 w2 =>
            ∃ (n2 : Int),
            e1 = .returned (.int .u32 n2) ∧
            (256 : Int) ≠ 0 ∧
            K1 (IntKind.wrap .i64 (σ1.1 + 1), IntKind.wrap .u32 ((BitVec.ofInt (IntKind.bits .u32) n2 ^^^ BitVec.ofInt (IntKind.bits .u32) (IntKind.wrap .u32 (Int.tdiv σ1.2.1 256))).toNat), ()) w2)
      (R (.int .u32 (IntKind.wrap .u32 ((BitVec.ofInt (IntKind.bits .u32) 4294967295 ^^^ BitVec.ofInt (IntKind.bits .u32) σ1.2.1).toNat))) w1)) (0, IntKind.wrap .u32 ((BitVec.ofInt (IntKind.bits .u32) 4294967295 ^^^ BitVec.ofInt (IntKind.bits .u32) x0).toNat), ()) w0

theorem call162 {x0 : Int} {x1 : SV} {w0 : World} {R : Ending → World → Prop} (h : ir162 x0 x1 w0 fun v w => R (.returned v) w) : Calls Pr 162 #[.int .u32 x0, .slice x1.a x1.len x1.cap] w0 R := by
  refine calls_of_vc (ann := [(3, [(6, .int .i64), (5, .int .u32)])]) (E := []) (args := [.int .u32 x0, .slice x1.a x1.len x1.cap]) follows Try.func162 rfl (by kernel_rfl) ?_
  apply by_eq h
  kernel_rfl

/-- creel/crc.Add -/
def ir167 (x0 : Int) (x1 : SV) (w0 : World) (R : Value → World → Prop) : Prop :=
  Calls Pr 181 #[] w0 fun e1 w1 =>
    ∃ (arr1 : Array Value),
    e1 = .returned (.agg arr1) ∧
    ∃ (a1 : Addr) (w2 : World),
    Sem.run Pr (Instr.alloc 234 true (.tuple #[])) w1 = .ok (.pointer (some a1)) w2 ∧
    ∃ (w3 : World),
    Sem.run Pr (Instr.storeAt 234 (.pointer (some a1)) (.agg arr1)) w2 = .ok () w3 ∧
    LoopT (σ := Int × Int × Unit) (fun σ1 w4 K1 =>
      ∀ _ : Env,
      brc (decide (σ1.1 < ((x1.len : Nat) : Int)))
        (((0 : Int) ≤ σ1.1 ∧ σ1.1 < ((x1.len : Nat) : Int)) ∧
          optK x1.a fun a2 =>
            ∃ (n1 : Int),
            At Pr w4 (loadVar 5 (Addr.add a2 (Int.toNat σ1.1 * 1))) (.int .u8 n1) ∧
            ((0 : Int) ≤ (IntKind.wrap .u8 ((BitVec.ofInt (IntKind.bits .u8) (IntKind.wrap .u8 σ1.2.1) ^^^ BitVec.ofInt (IntKind.bits .u8) n1).toNat)) ∧ (IntKind.wrap .u8 ((BitVec.ofInt (IntKind.bits .u8) (IntKind.wrap .u8 σ1.2.1) ^^^ BitVec.ofInt (IntKind.bits .u8) n1).toNat)) < ((256 : Nat) : Int)) ∧
            ∃ (n2 : Int),
            At Pr w4 (loadVar 206 (Addr.add a1 (Int.toNat (IntKind.wrap .u8 ((BitVec.ofInt (IntKind.bits .u8) (IntKind.wrap .u8 σ1.2.1) ^^^ BitVec.ofInt (IntKind.bits .u8) n1).toNat)) * 1))) (.int .u32 n2) ∧
            (0 : Int) ≤ 8 ∧
            K1 (IntKind.wrap .i64 (σ1.1 + 1), IntKind.wrap .u32 ((BitVec.ofInt (IntKind.bits .u32) n2 ^^^ BitVec.ofInt (IntKind.bits .u32) (Int.fdiv σ1.2.1 (2 ^ (min (Int.toNat 8) (IntKind.bits .u32))))).toNat), ()) w4)
        (R (.int .u32 (IntKind.wrap .u32 (BitVec.ofInt (IntKind.bits .u32) (if IntKind.signed .u32 then -1 else IntKind.max .u32) ^^^ BitVec.ofInt (IntKind.bits .u32) σ1.2.1).toNat)) w4)) (0, IntKind.wrap .u32 (BitVec.ofInt (IntKind.bits .u32) (if IntKind.signed .u32 then -1 else IntKind.max .u32) ^^^ BitVec.ofInt (IntKind.bits .u32) x0).toNat, ()) w3

theorem call167 {x0 : Int} {x1 : SV} {w0 : World} {R : Ending → World → Prop} (h : ir167 x0 x1 w0 fun v w => R (.returned v) w) : Calls Pr 167 #[.int .u32 x0, .slice x1.a x1.len x1.cap] w0 R := by
  refine calls_of_vc (ann := [(4, [(14, .int .i64), (6, .int .u32)])]) (E := []) (args := [.int .u32 x0, .slice x1.a x1.len x1.cap]) follows Try.func167 rfl (by kernel_rfl) ?_
  apply by_eq h
  kernel_rfl

/-- creel/creelref02.entry -/
def ir179 (x0 : Int) (w0 : World) (R : Value → World → Prop) : Prop :=
  LoopT (σ := Int × Int × Unit) (fun σ1 w1 K1 =>
    ∀ _ : Env,
    brc (decide (σ1.1 < (8 : Int)))
      ((2 : Int) ≠ 0 ∧
        brc ((Int.tmod σ1.2.1 2) == (1 : Int))
          ((2 : Int) ≠ 0 ∧
            K1 (IntKind.wrap .i64 (σ1.1 + 1), IntKind.wrap .u32 ((BitVec.ofInt (IntKind.bits .u32) (IntKind.wrap .u32 (Int.tdiv σ1.2.1 2)) ^^^ BitVec.ofInt (IntKind.bits .u32) 2197175160).toNat), ()) w1)
          ((2 : Int) ≠ 0 ∧
            K1 (IntKind.wrap .i64 (σ1.1 + 1), IntKind.wrap .u32 (Int.tdiv σ1.2.1 2), ()) w1))
      (R (.int .u32 σ1.2.1) w1)) (0, x0, ()) w0

theorem call179 {x0 : Int} {w0 : World} {R : Ending → World → Prop} (h : ir179 x0 w0 fun v w => R (.returned v) w) : Calls Pr 179 #[.int .u32 x0] w0 R := by
  refine calls_of_vc (ann := [(2, [(3, .int .i64), (0, .int .u32)])]) (E := []) (args := [.int .u32 x0]) follows Try.func179 rfl (by kernel_rfl) ?_
  apply by_eq h
  kernel_rfl

/-- creel/crc.Table -/
def ir181 (w0 : World) (R : Value → World → Prop) : Prop :=
  ∃ (a1 : Addr) (w1 : World),
  Sem.run Pr (Instr.alloc 234 true (.tuple #[])) w0 = .ok (.pointer (some a1)) w1 ∧
  ∃ (a2 : Addr) (w2 : World),
  Sem.run Pr (Instr.alloc 234 true (.tuple #[])) w1 = .ok (.pointer (some a2)) w2 ∧
  LoopT (σ := Int × Unit) (fun σ1 w3 K1 =>
    ∀ _ : Env,
    brc (decide (σ1.1 < (256 : Int)))
      (LoopT (σ := Int × Int × Unit) (fun σ2 w4 K2 =>
          ∀ _ : Env,
          brc (decide (σ2.1 < (8 : Int)))
            ((0 : Int) ≤ 1 ∧
              K2 (IntKind.wrap .i64 (σ2.1 + 1), IntKind.wrap .u32 ((BitVec.ofInt (IntKind.bits .u32) (Int.fdiv σ2.2.1 (2 ^ (min (Int.toNat 1) (IntKind.bits .u32)))) ^^^ BitVec.ofInt (IntKind.bits .u32) (IntKind.wrap .u32 ((BitVec.ofInt (IntKind.bits .u32) 2197175160 &&& BitVec.ofInt (IntKind.bits .u32) (IntKind.wrap .u32 (0 - (IntKind.wrap .u32 ((BitVec.ofInt (IntKind.bits .u32) σ2.2.1 &&& BitVec.ofInt (IntKind.bits .u32) 1).toNat))))).toNat))).toNat), ()) w4)
            (((0 : Int) ≤ σ1.1 ∧ σ1.1 < ((256 : Nat) : Int)) ∧
              ∃ (w5 : World),
              Sem.run Pr (Instr.storeAt 206 (.pointer (some (Addr.add a2 (Int.toNat σ1.1 * 1)))) (.int .u32 σ2.2.1)) w4 = .ok () w5 ∧
              K1 (IntKind.wrap .i64 (σ1.1 + 1), ()) w5)) (0, IntKind.wrap .u32 σ1.1, ()) w3)
      (∃ (arr1 : Array Value),
        At Pr w3 (loadVar 234 a2) (.agg arr1) ∧
        ∃ (w6 : World),
        Sem.run Pr (Instr.storeAt 234 (.pointer (some a1)) (.agg arr1)) w3 = .ok () w6 ∧
        ∃ (arr2 : Array Value),
        At Pr w6 (loadVar 234 a1) (.agg arr2) ∧
        R (.agg arr2) w6)) (0, ()) w2

theorem call181 {w0 : World} {R : Ending → World → Prop} (h : ir181 w0 fun v w => R (.returned v) w) : Calls Pr 181 #[] w0 R := by
  refine calls_of_vc (ann := [(3, [(4, .int .i64)]), (7, [(9, .int .i64), (3, .int .u32)])]) (E := []) (args := []) follows Try.func181 rfl (by kernel_rfl) ?_
  apply by_eq h
  kernel_rfl

end Go.Proofs.Ytonjaaljnjjjcaa

/- Contracts: bytes. Conditions: as each lemma says. -/
set_option linter.unusedVariables false
set_option linter.unusedSimpArgs false
namespace Go.Proofs.Ytonjaaljnjjjcaa
open Go Go.RowKit

/-- slices.Clone of bytes. -/
theorem k88 {E w : World} {L : List Chunk} {s : SV} {l : List UInt8} (hS : Sep E w L) (hr : RdB L s l) (hb : l.length ≤ 1099511627776) :
    Calls Pr 88 #[.slice s.a s.len s.cap] w fun e w' => ∃ (s' : SV) (C : List Chunk), e = .returned (.slice s'.a s'.len s'.cap) ∧ Own 5 1 s' (l.map byteV) C ∧ Sep E w' (C ++ L) := by
  refine call88 ?_
  unfold ir88
  have hsz := hr.size
  refine ⟨s.a.isNone, at_nilslice (T := 5) (by kernel_rfl) _ _ _ _, brc_intro (fun h => ?_) (fun h => ?_)⟩
  · have h0 : l = [] := List.eq_nil_of_length_eq_zero (by rw [← hsz]; exact hr.nil (by simpa using h))
    subst h0
    exact ⟨SV.nil, [], rfl, Own.nil _ _, hS⟩
  · obtain ⟨b, w1, h1, hS1⟩ := hS.buildSlice (t := 26) (T := 5) (len := 0) (parts := []) (vs := []) (by kernel_rfl) (by kernel_rfl)
    refine ⟨⟨some ⟨b, 0, none⟩, 0, 0⟩, w1, h1, ?_⟩
    have ho : Own 5 1 ⟨some ⟨b, 0, none⟩, 0, 0⟩ [] [(b, .cells #[] 5 (0, 0))] := Own.new (n := 0) rfl (Nat.zero_le _)
    obtain ⟨s', w2, C, h2, ho', _, hS2⟩ := Sep.append (ty := 26) tiB (L := [(b, .cells #[] 5 (0, 0))]) (F := L) hS1 ho ((hr.right [(b, .cells #[] 5 (0, 0))]).src hS1 fun c hc => hc) (byteV_one l) (by simp only [hsz]; omega) (by simp only [hsz]; unfold maxLen; omega)
    exact ⟨s', w2, h2, s', C, rfl, by simpa using ho', hS2⟩

/-- bytes.Equal. -/
theorem k81 {E w : World} {L : List Chunk} {s t : SV} {l m : List UInt8} (hS : Sep E w L) (hr : RdB L s l) (ht : RdB L t m) :
    Calls Pr 81 #[.slice s.a s.len s.cap, .slice t.a t.len t.cap] w fun e w' => e = .returned (.bool (decide (l = m))) ∧ Sep E w' L := by
  refine call81 ?_
  unfold ir81
  refine ⟨_, hS.toStr hr (fun c hc => hc) (by kernel_rfl) (by kernel_rfl), _, hS.toStr ht (fun c hc => hc) (by kernel_rfl) (by kernel_rfl), ?_, hS⟩
  rw [ba_eq_toList]
  congr 2
  rw [decide_eq_decide]
  exact strOf_inj

theorem at_cap {w : World} {t T ty : TypeId} (ht : Pr.underlying t = some (.slice T)) (a : Option Addr) (l c : Nat) : At Pr w (Builtin.cap_ #[t] ty #[.slice a l c]) (.int .i64 (c : Int)) := by
  unfold At
  simp [Builtin.cap_, run_underlying ht, goInt]

theorem grow_zero (w : World) (z : Value) (hz : z.cells.size = 1) (n : Nat) : (Builtin.zeroCells z.cells n).size = n := by simp [Builtin.zeroCells, hz]

/-- slices.Grow of nil. -/
theorem k140 {E w : World} {L : List Chunk} (hS : Sep E w L) {n : Nat} (hb : n ≤ 1099511627776) :
    Calls Pr 140 #[.slice none 0 0, .int .i64 (n : Int)] w fun e w' => ∃ (s' : SV) (C : List Chunk), e = .returned (.slice s'.a s'.len s'.cap) ∧ Own 5 1 s' [] C ∧ s'.len = 0 ∧ Sep E w' (C ++ L) := by
  refine call140 (x0 := SV.nil) ?_
  unfold ir140
  refine brc_false (by simp) ?_
  refine ⟨0, at_cap (T := 5) (by kernel_rfl) _ _ _, ?_⟩
  have hw : IntKind.wrap .i64 ((n : Int) - IntKind.wrap .i64 (0 - ((SV.nil.len : Nat) : Int))) = n := by
    show IntKind.wrap .i64 ((n : Int) - IntKind.wrap .i64 (0 - 0)) = n
    rw [w64 (n := 0 - 0) (by omega) (by omega), w64 (by omega) (by omega)]
    omega
  rw [hw]
  refine brc_intro (fun h => ?_) (fun h => ?_)
  · have h : 0 < n := by simpa using h
    obtain ⟨i, hi, hz, hsz, hby⟩ := info_parts tiB.info
    refine ⟨0, at_cap (T := 5) (by kernel_rfl) _ _ _, ⟨by omega, by simp⟩, ?_⟩
    have hrun := Lib.run_append_nil_zeros (P := Pr) w 26 3 26 5 i _ .i64 .i64 tiB.und (by kernel_rfl) hi hz n h (by omega) (by omega) (by rw [hby]; omega)
    refine ⟨⟨some ⟨w.heap.size, 0, none⟩, n, grownCap w n 0 5⟩, _, hrun, ⟨by show (0 : Int) ≤ 0; omega, by show (0 : Int) ≤ _; omega⟩, ?_⟩
    have hgc : n ≤ grownCap w n 0 5 := grownCap_ge w n 0 5
    have hgm : grownCap w n 0 5 ≤ maxLen := grownCap_le_maxLen w n 0 5 (by unfold maxLen; omega)
    refine ⟨⟨some ⟨w.heap.size, 0, none⟩, 0, grownCap w n 0 5⟩, _, ?_, ⟨rfl, .inr ⟨w.heap.size, _, rfl, rfl, Nat.zero_le _, hgm, ?_, by simp⟩⟩, rfl, hS.drew.push _⟩
    · rw [cutAt_zero]
      rfl
    · rw [Array.size_append, grow_zero w _ rfl, grow_zero w _ rfl]
      show n + (grownCap w n 0 5 - n) = grownCap w n 0 5 * 1
      omega
  · exact ⟨SV.nil, [], rfl, Own.nil _ _, rfl, hS⟩

theorem RdBs.at_ {I : List Chunk} {ss : List SV} {ls : List (List UInt8)} (h : RdBs I ss ls) {k : Nat} (hk : k < ls.length) : ∃ s l, ss[k]? = some s ∧ ls[k]? = some l ∧ RdB I s l ∧ ls.drop k = l :: ls.drop (k + 1) := by
  have hk' : k < ss.length := by rw [h.1]; exact hk
  exact ⟨ss[k], ls[k], by simp, by simp, h.2 k _ _ (by simp) (by simp), List.drop_eq_getElem_cons hk⟩

theorem flat_len_take (ls : List (List UInt8)) (k : Nat) : (ls.take k).flatten.length ≤ ls.flatten.length := by
  conv => rhs; rw [← List.take_append_drop k ls]
  rw [List.flatten_append, List.length_append]
  omega
theorem take_flat {ls : List (List UInt8)} {k : Nat} {l : List UInt8} (h : ls[k]? = some l) : (ls.take (k + 1)).flatten = (ls.take k).flatten ++ l := by
  rw [List.take_add_one, h]
  simp

/-- slices.Concat of bytes. -/
theorem k94 {E w : World} {L : List Chunk} {s : SV} {ss : List SV} {ls : List (List UInt8)} (hS : Sep E w L) (hr : RdS L 1 s (ss.map slV)) (hs : RdBs L ss ls) (hn : ls.length ≤ 1099511627776) (hb : ls.flatten.length ≤ 1099511627776) :
    Calls Pr 94 #[.slice s.a s.len s.cap] w fun e w' => ∃ (s' : SV) (C : List Chunk), e = .returned (.slice s'.a s'.len s'.cap) ∧ Own 5 1 s' (ls.flatten.map byteV) C ∧ Sep E w' (C ++ L) := by
  refine call94 ?_
  unfold ir94
  have hsz : s.len = ls.length := by rw [hr.len1, List.length_map, hs.1]
  refine ⟨fun n σ w1 => ∃ k : Nat, k ≤ ls.length ∧ n = ls.length - k ∧ σ = ((k : Int), (((ls.take k).flatten.length : Nat) : Int), ()) ∧ Sep E w1 L, ls.length, ⟨0, Nat.zero_le _, rfl, by simp, hS⟩, ?_⟩
  rintro n σ w1 ⟨k, hk, rfl, rfl, hS1⟩ _
  dsimp only
  refine brc_intro (fun h => ?_) (fun h => ?_)
  · have h : k < ls.length := by simp at h; omega
    obtain ⟨x, l, hx, hl, hrx, _⟩ := hs.at_ h
    obtain ⟨a, ha, hat⟩ := hr.idx (i := k) (v := slV x) (by simp [hx]) hS1 (fun c hc => hc) (t := 26) (by kernel_rfl)
    have hf := take_flat hl
    have hf' := flat_len_take ls (k + 1)
    have hw : IntKind.wrap .i64 ((((ls.take k).flatten.length : Nat) : Int) + ((x.len : Nat) : Int)) = (((ls.take (k + 1)).flatten.length : Nat) : Int) := by
      rw [hrx.size, hf, List.length_append, w64 (by omega) (by rw [hf, List.length_append] at hf'; omega)]
      omega
    refine ⟨⟨by omega, by omega⟩, ?_⟩
    rw [ha]
    refine ⟨x, by simpa using hat, ?_⟩
    rw [hw]
    refine brc_false (decide_eq_false (by omega)) ?_
    refine ⟨ls.length - (k + 1), by omega, k + 1, by omega, rfl, ?_, hS1⟩
    rw [w64 (by omega) (by omega)]
    rfl
  · have h : k = ls.length := by simp at h; omega
    subst h
    rw [List.take_length]
    refine (k140 hS1 hb).mono ?_
    rintro _ w2 ⟨s2, C, rfl, ho, hl0, hS2⟩
    refine ⟨s2, rfl, ?_⟩
    refine ⟨fun n σ w3 => ∃ (k : Nat) (C : List Chunk), k ≤ ls.length ∧ n = ls.length - k ∧ σ.1 = (k : Int) ∧ Own 5 1 σ.2.1 ((ls.take k).flatten.map byteV) C ∧ Sep E w3 (C ++ L), ls.length, ⟨0, C, Nat.zero_le _, rfl, rfl, by simpa using ho, hS2⟩, ?_⟩
    rintro n ⟨i, s3, u⟩ w3 ⟨k, C, hk, rfl, hi, ho, hS3⟩ _
    dsimp only at hi ho ⊢
    subst hi
    refine brc_intro (fun h => ?_) (fun h => ?_)
    · have h : k < ls.length := by simp at h; omega
      obtain ⟨x, l, hx, hl, hrx, _⟩ := hs.at_ h
      obtain ⟨a, ha, hat⟩ := hr.idx (i := k) (v := slV x) (by simp [hx]) hS3 (fun c hc => List.mem_append_right _ hc) (t := 26) (by kernel_rfl)
      have hf := take_flat hl
      have hf' := flat_len_take ls (k + 1)
      refine ⟨⟨by omega, by omega⟩, ?_⟩
      rw [ha]
      refine ⟨x, by simpa using hat, ?_⟩
      have hlen := ho.rds.len1
      rw [List.length_map] at hlen
      rw [hf, List.length_append] at hf'
      have hxs := hrx.size
      obtain ⟨s4, w4, C', h2, ho', _, hS4⟩ := Sep.append (ty := 26) tiB hS3 ho ((hrx.right C).src hS3 fun c hc => hc) (byteV_one l) (by rw [hlen, hxs]; omega) (by rw [hlen, hxs]; unfold maxLen; omega)
      refine ⟨s4, w4, h2, ls.length - (k + 1), by omega, k + 1, C', by omega, rfl, ?_, ?_, hS4⟩
      · rw [w64 (by omega) (by omega)]
        rfl
      · rw [hf, List.map_append]
        exact ho'
    · have h : k = ls.length := by simp at h; omega
      subst h
      rw [List.take_length] at ho
      exact ⟨s3, C, rfl, ho, hS3⟩

end Go.Proofs.Ytonjaaljnjjjcaa

/- Contracts: sums of bytes, of the program and of the reference. Conditions: as each lemma says. -/
set_option linter.unusedVariables false
set_option linter.unusedSimpArgs false
namespace Go.Proofs.Ytonjaaljnjjjcaa
open Go Go.RowKit

/-! ### The sum -/
def crcStep (c : Nat) : Nat := if c % 2 = 1 then (c / 2) ^^^ 2197175160 else c / 2
def crcIt : Nat → Nat → Nat
  | 0, c => c
  | n + 1, c => crcStep (crcIt n c)
def crcEntry (i : Nat) : Nat := crcIt 8 i
def crcOne (c : Nat) (b : UInt8) : Nat := crcEntry ((c ^^^ b.toNat) % 256) ^^^ (c / 256)
def crcSum (l : List UInt8) : Nat := 4294967295 ^^^ l.foldl crcOne (4294967295 ^^^ 0)

theorem xor_lt {x y : Nat} (hx : x < 4294967296) (hy : y < 4294967296) : x ^^^ y < 4294967296 := Nat.xor_lt_two_pow (n := 32) hx hy
theorem crcStep_lt {c : Nat} (h : c < 4294967296) : crcStep c < 4294967296 := by
  unfold crcStep
  split
  · exact xor_lt (by omega) (by omega)
  · omega
theorem crcIt_lt {c : Nat} (h : c < 4294967296) : ∀ n, crcIt n c < 4294967296
  | 0 => h
  | n + 1 => crcStep_lt (crcIt_lt h n)
theorem crcEntry_lt {c : Nat} (h : c < 4294967296) : crcEntry c < 4294967296 := crcIt_lt h 8
theorem crcOne_lt {c : Nat} (h : c < 4294967296) (b : UInt8) : crcOne c b < 4294967296 := xor_lt (crcIt_lt (by omega) 8) (by omega)
theorem crcFold_lt : ∀ (l : List UInt8) {c : Nat}, c < 4294967296 → l.foldl crcOne c < 4294967296
  | [], _, h => h
  | b :: l, _, h => crcFold_lt l (crcOne_lt h b)
theorem crcSum_lt (l : List UInt8) : crcSum l < 4294967296 := xor_lt (by omega) (crcFold_lt l (by decide))

/-! ### Whole numbers of a kind, as natural numbers -/
theorem wu32 {x : Nat} (h : x < 4294967296) : IntKind.wrap .u32 ((x : Nat) : Int) = ((x : Nat) : Int) := by rw [IntKind.wrap_u32]; omega
theorem wu8 (x : Nat) : IntKind.wrap .u8 ((x : Nat) : Int) = ((x % 256 : Nat) : Int) := by rw [IntKind.wrap_u8]; omega
theorem u32_xor {x y : Nat} (hx : x < 4294967296) (hy : y < 4294967296) :
    IntKind.wrap .u32 (((BitVec.ofInt (IntKind.bits .u32) ((x : Nat) : Int) ^^^ BitVec.ofInt (IntKind.bits .u32) ((y : Nat) : Int)).toNat : Nat) : Int) = ((x ^^^ y : Nat) : Int) := by
  change IntKind.wrap .u32 (((BitVec.ofInt 32 ((x : Nat) : Int) ^^^ BitVec.ofInt 32 ((y : Nat) : Int)).toNat : Nat) : Int) = _
  rw [BitVec.ofInt_natCast, BitVec.ofInt_natCast, BitVec.toNat_xor, BitVec.toNat_ofNat, BitVec.toNat_ofNat, Nat.mod_eq_of_lt hx, Nat.mod_eq_of_lt hy]
  exact wu32 (xor_lt hx hy)
theorem u8_xor {x y : Nat} (hx : x < 256) (hy : y < 256) :
    IntKind.wrap .u8 (((BitVec.ofInt (IntKind.bits .u8) ((x : Nat) : Int) ^^^ BitVec.ofInt (IntKind.bits .u8) ((y : Nat) : Int)).toNat : Nat) : Int) = ((x ^^^ y : Nat) : Int) := by
  change IntKind.wrap .u8 (((BitVec.ofInt 8 ((x : Nat) : Int) ^^^ BitVec.ofInt 8 ((y : Nat) : Int)).toNat : Nat) : Int) = _
  rw [BitVec.ofInt_natCast, BitVec.ofInt_natCast, BitVec.toNat_xor, BitVec.toNat_ofNat, BitVec.toNat_ofNat, Nat.mod_eq_of_lt hx, Nat.mod_eq_of_lt hy, wu8]
  have : x ^^^ y < 2 ^ 8 := Nat.xor_lt_two_pow hx hy
  rw [Nat.mod_eq_of_lt this]

theorem step_prog {c : Nat} (h : c < 4294967296) :
    IntKind.wrap .u32 (((BitVec.ofInt (IntKind.bits .u32) (Int.fdiv ((c : Nat) : Int) (2 ^ (min (Int.toNat 1) (IntKind.bits .u32)))) ^^^ BitVec.ofInt (IntKind.bits .u32) (IntKind.wrap .u32 ((BitVec.ofInt (IntKind.bits .u32) 2197175160 &&& BitVec.ofInt (IntKind.bits .u32) (IntKind.wrap .u32 (0 - (IntKind.wrap .u32 ((BitVec.ofInt (IntKind.bits .u32) ((c : Nat) : Int) &&& BitVec.ofInt (IntKind.bits .u32) 1).toNat))))).toNat))).toNat : Nat) : Int) = ((crcStep c : Nat) : Int) := by
  have h1 : (BitVec.ofInt (IntKind.bits .u32) ((c : Nat) : Int) &&& BitVec.ofInt (IntKind.bits .u32) 1).toNat = c % 2 := by
    change (BitVec.ofInt 32 ((c : Nat) : Int) &&& BitVec.ofInt 32 ((1 : Nat) : Int)).toNat = _
    rw [BitVec.ofInt_natCast, BitVec.ofInt_natCast, BitVec.toNat_and, BitVec.toNat_ofNat, BitVec.toNat_ofNat, Nat.mod_eq_of_lt h]
    exact Nat.and_one_is_mod c
  have h2 : Int.fdiv ((c : Nat) : Int) (2 ^ (min (Int.toNat 1) (IntKind.bits .u32))) = ((c / 2 : Nat) : Int) := by
    change Int.fdiv ((c : Nat) : Int) 2 = _
    rw [Int.fdiv_eq_ediv_of_nonneg _ (by omega)]
    omega
  rw [h1, h2, wu32 (x := c % 2) (by omega)]
  unfold crcStep
  split
  · rename_i hc
    rw [hc]
    have h3 : IntKind.wrap .u32 (((BitVec.ofInt (IntKind.bits .u32) 2197175160 &&& BitVec.ofInt (IntKind.bits .u32) (IntKind.wrap .u32 (0 - (((1 : Nat) : Nat) : Int)))).toNat : Nat) : Int) = ((2197175160 : Nat) : Int) := by kernel_rfl
    rw [h3]
    exact u32_xor (by omega) (by omega)
  · rename_i hc
    have hc : c % 2 = 0 := by omega
    rw [hc]
    have h3 : IntKind.wrap .u32 (((BitVec.ofInt (IntKind.bits .u32) 2197175160 &&& BitVec.ofInt (IntKind.bits .u32) (IntKind.wrap .u32 (0 - (((0 : Nat) : Nat) : Int)))).toNat : Nat) : Int) = ((0 : Nat) : Int) := by kernel_rfl
    rw [h3, u32_xor (by omega) (by omega), Nat.xor_zero]

/-! ### The program's table -/
def tabL (k : Nat) : List Value := (List.range 256).map fun i => if i < k then .int .u32 ((crcEntry i : Nat) : Int) else .int .u32 0

theorem tabL_len (k : Nat) : (tabL k).length = 256 := by simp [tabL]
theorem spl_one (cs : List Value) (o : Nat) (v : Value) (h : o < cs.length) : spl cs o [v] = cs.set o v := by
  unfold spl
  rw [List.set_eq_take_append_cons_drop, if_pos h]
  simp
theorem tabL_set (k : Nat) (h : k < 256) : spl (tabL k) k [.int .u32 ((crcEntry k : Nat) : Int)] = tabL (k + 1) := by
  rw [spl_one _ _ _ (by rw [tabL_len]; exact h)]
  apply List.ext_getElem
  · simp [tabL]
  · intro i h1 h2
    simp only [tabL, List.getElem_set, List.getElem_map, List.getElem_range]
    by_cases hi : k = i
    · subst hi; simp
    · rw [if_neg hi]
      by_cases h3 : i < k
      · rw [if_pos h3, if_pos (by omega)]
      · rw [if_neg h3, if_neg (by omega)]

set_option maxRecDepth 100000 in
theorem z234 : (Pr.info? 234).bind (·.zero) = some (.agg (tabL 0).toArray) := by kernel_rfl

theorem k181 {E w : World} {L : List Chunk} (hS : Sep E w L) : Calls Pr 181 #[] w fun e w' => e = .returned (.agg (tabL 256).toArray) ∧ ∃ C, Sep E w' (C ++ L) := by
  refine call181 ?_
  unfold ir181
  obtain ⟨b1, w1, h1, hS1⟩ := hS.alloc (t := 234) z234
  obtain ⟨b2, w2, h2, hS2⟩ := hS1.alloc (t := 234) z234
  refine ⟨_, w1, h1, _, w2, h2, ?_⟩
  refine ⟨fun n σ w3 => ∃ k : Nat, k ≤ 256 ∧ n = 256 - k ∧ σ = ((k : Int), ()) ∧ Sep E w3 ((b2, .cells (tabL k).toArray 234 (0, 0)) :: (b1, .cells (tabL 0).toArray 234 (0, 0)) :: L), 256, ⟨0, by omega, rfl, rfl, hS2⟩, ?_⟩
  rintro n σ w3 ⟨k, hk, rfl, rfl, hS3⟩ _
  dsimp only
  generalize hN : decide (((k : Nat) : Int) < (256 : Int)) = tN
  refine brc_intro (fun h => ?_) (fun h => ?_)
  · have h : k < 256 := by rw [← hN] at h; simp at h; omega
    refine ⟨fun n σ w4 => ∃ i : Nat, i ≤ 8 ∧ n = 8 - i ∧ σ = ((i : Int), ((crcIt i k : Nat) : Int), ()) ∧ w4 = w3, 8, ⟨0, by omega, rfl, ?_, rfl⟩, ?_⟩
    · rw [wu32 (by omega)]
      rfl
    rintro n σ w4 ⟨i, hi, rfl, rfl, rfl⟩ _
    dsimp only
    refine brc_intro (fun h' => ?_) (fun h' => ?_)
    · have h' : i < 8 := by simp at h'; omega
      refine ⟨by omega, 8 - (i + 1), by omega, i + 1, by omega, rfl, ?_, rfl⟩
      rw [step_prog (crcIt_lt (by omega) i), w64 (by omega) (by omega)]
      rfl
    · have h' : i = 8 := by simp at h'; omega
      subst h'
      refine ⟨⟨by omega, by omega⟩, ?_⟩
      obtain ⟨w5, h5, hS5⟩ := hS3.store (o := k) (n := 1) (v := .int .u32 ((crcIt 8 k : Nat) : Int)) (t := 206) (by kernel_rfl) rfl (by rw [tabL_len]; omega) (by simp [Value.cells, Value.oneCell'])
      refine ⟨w5, by rw [addr_add]; simpa using h5, 256 - (k + 1), by omega, k + 1, by omega, rfl, ?_, ?_⟩
      · rw [w64 (by omega) (by omega)]
        rfl
      · rw [← tabL_set k h]
        exact hS5
  · have h : k = 256 := by rw [← hN] at h; simp at h; omega
    clear hN
    subst h
    refine ⟨_, hS3.loadS (o := 0) (n := 256) (vs := tabL 256) List.mem_cons_self (by kernel_rfl) (by kernel_rfl) (by rw [List.drop_zero]; exact List.take_of_length_le (by rw [tabL_len]; omega)) (by simp [tabL_len]), ?_⟩
    have hS4 : Sep E w3 ((b1, .cells (tabL 0).toArray 234 (0, 0)) :: (b2, .cells (tabL 256).toArray 234 (0, 0)) :: L) := hS3.weak (by intro f; simp only [ms_append, ms_cons, ms_nil]; omega)
    obtain ⟨w5, h5, hS5⟩ := hS4.store (o := 0) (n := 256) (v := .agg (tabL 256).toArray) (t := 234) (by kernel_rfl) (by simp [Value.cells, tabL_len]) (by rw [tabL_len]; omega) (by
      intro u hu
      simp only [Value.cells, tabL, List.mem_map] at hu
      obtain ⟨i, _, rfl⟩ := hu
      split <;> rfl)
    refine ⟨w5, h5, ?_⟩
    have hsp : spl (tabL 0) 0 (Value.agg (tabL 256).toArray).cells.toList = tabL 256 := by
      simp only [spl, Value.cells, List.take_zero, List.nil_append, Nat.zero_add]
      rw [List.drop_of_length_le (by rw [tabL_len, tabL_len]; omega), List.append_nil]
    rw [hsp] at hS5
    refine ⟨_, hS5.loadS (o := 0) (n := 256) (vs := tabL 256) List.mem_cons_self (by kernel_rfl) (by kernel_rfl) (by rw [List.drop_zero]; exact List.take_of_length_le (by rw [tabL_len]; omega)) (by simp [tabL_len]), rfl, [_, _], hS5⟩

end Go.Proofs.Ytonjaaljnjjjcaa

/- Contracts: sums, fixed numbers, frames of the program. Conditions: as each lemma says. -/
set_option linter.unusedVariables false
set_option linter.unusedSimpArgs false
namespace Go.Proofs.Ytonjaaljnjjjcaa
open Go Go.RowKit

theorem byteV_ofNat (x : Nat) : byteV (UInt8.ofNat x) = .int .u8 ((x % 256 : Nat) : Int) := by
  unfold byteV
  rw [UInt8.toNat_ofNat']

theorem Sep.litB {E w : World} {L : List Chunk} (hS : Sep E w L) {n : Nat} {parts : List (Nat × Value)} {l : List UInt8} (hl : l.length = n) (hn : n ≤ 1099511627776) (hv : bsV Pr 26 n parts = some (l.map byteV)) :
    ∃ (s : SV) (w' : World) (C : List Chunk), Sem.run Pr (Instr.buildSlice 26 n parts.toArray) w = .ok (.slice s.a s.len s.cap) w' ∧ Own 5 1 s (l.map byteV) C ∧ Sep E w' (C ++ L) := by
  obtain ⟨b, w1, h1, hS1⟩ := hS.buildSlice (t := 26) (T := 5) (by kernel_rfl) hv
  exact ⟨⟨some ⟨b, 0, none⟩, n, n⟩, w1, _, h1, Own.new (by simp [hl]) (by unfold maxLen; omega), hS1⟩

theorem Sep.appB {E w : World} {C L : List Chunk} {s x : SV} {l m : List UInt8} (hS : Sep E w (C ++ L)) (ho : Own 5 1 s (l.map byteV) C) (hx : RdB (C ++ L) x m) (hb : l.length + m.length ≤ 35184372088832) {ty : Nat} :
    ∃ (s' : SV) (w' : World) (C' : List Chunk), Sem.run Pr (Builtin.append_ #[26, 26] ty #[.slice s.a s.len s.cap, .slice x.a x.len x.cap]) w = .ok (.slice s'.a s'.len s'.cap) w' ∧ Own 5 1 s' ((l ++ m).map byteV) C' ∧ Sep E w' (C' ++ L) := by
  have h1 := ho.rds.len1
  have h2 := hx.size
  rw [List.length_map] at h1
  obtain ⟨s', w', C', h, ho', _, hS'⟩ := Sep.append (ty := ty) tiB hS ho (hx.src hS fun c hc => hc) (byteV_one m) (by rw [h1, h2]; omega) (by rw [h1, h2]; unfold maxLen; omega)
  exact ⟨s', w', C', h, by rw [List.map_append]; exact ho', hS'⟩

theorem Own.size {s : SV} {l : List UInt8} {C : List Chunk} (h : Own 5 1 s (l.map byteV) C) : s.len = l.length := by
  have := h.rds.len1
  rwa [List.length_map] at this

/-- slices.Clone: 'append([]T{}, x...)'. -/
theorem Sep.clone {E w : World} {L : List Chunk} (hS : Sep E w L) {x : SV} {m : List UInt8} (hx : RdB L x m) (hb : m.length ≤ 35184372088832) {ty : Nat} :
    ∃ (s1 : SV) (w1 : World), Sem.run Pr (Instr.buildSlice 26 0 #[]) w = .ok (.slice s1.a s1.len s1.cap) w1 ∧ ∃ (s' : SV) (w' : World) (C' : List Chunk),
      Sem.run Pr (Builtin.append_ #[26, 26] ty #[.slice s1.a s1.len s1.cap, .slice x.a x.len x.cap]) w1 = .ok (.slice s'.a s'.len s'.cap) w' ∧ Own 5 1 s' (m.map byteV) C' ∧ Sep E w' (C' ++ L) := by
  obtain ⟨s1, w1, C, h1, ho, hS1⟩ := hS.litB (n := 0) (parts := []) (l := []) rfl (by omega) (by kernel_rfl)
  obtain ⟨s', w', C', h2, ho', hS2⟩ := hS1.appB (ty := ty) ho (hx.right C) (by simpa using hb)
  exact ⟨s1, w1, h1, s', w', C', h2, ho', hS2⟩

theorem tab_at (i : Nat) (h : i < 256) : ((tabL 256).toArray : Array Value)[i]? = some (.int .u32 ((crcEntry i : Nat) : Int)) := by
  simp [tabL, h]

theorem mix_prog {c : Nat} (h : c < 4294967296) (b : UInt8) :
    IntKind.wrap .u8 (((BitVec.ofInt (IntKind.bits .u8) (IntKind.wrap .u8 ((c : Nat) : Int)) ^^^ BitVec.ofInt (IntKind.bits .u8) ((b.toNat : Nat) : Int)).toNat : Nat) : Int) = (((c ^^^ b.toNat) % 256 : Nat) : Int) := by
  rw [wu8 c, u8_xor (by omega) (by have := b.toNat_lt; omega)]
  congr 1
  have : (c ^^^ b.toNat) % 2 ^ 8 = (c % 2 ^ 8) ^^^ (b.toNat % 2 ^ 8) := Nat.xor_mod_two_pow
  have hb : b.toNat % 2 ^ 8 = b.toNat := Nat.mod_eq_of_lt b.toNat_lt
  rw [hb] at this
  exact this.symm

theorem inv_prog {c : Nat} (h : c < 4294967296) :
    IntKind.wrap .u32 (((BitVec.ofInt (IntKind.bits .u32) (if IntKind.signed .u32 then -1 else IntKind.max .u32) ^^^ BitVec.ofInt (IntKind.bits .u32) ((c : Nat) : Int)).toNat : Nat) : Int) = ((4294967295 ^^^ c : Nat) : Int) :=
  u32_xor (x := 4294967295) (by omega) h

/-- crc.Add, crc.Sum. -/
theorem k167 {E w : World} {L : List Chunk} {s : SV} {l : List UInt8} (hS : Sep E w L) (hr : RdB L s l) (hb : l.length ≤ 1099511627776) :
    Calls Pr 167 #[.int .u32 0, .slice s.a s.len s.cap] w fun e w' => e = .returned (.int .u32 ((crcSum l : Nat) : Int)) ∧ ∃ C, Sep E w' (C ++ L) := by
  refine call167 ?_
  unfold ir167
  refine (k181 hS).mono ?_
  rintro _ w1 ⟨rfl, C, hS1⟩
  refine ⟨_, rfl, ?_⟩
  obtain ⟨b1, w2, h2, hS2⟩ := hS1.alloc (t := 234) z234
  obtain ⟨w3, h3, hS3⟩ := hS2.store (o := 0) (n := 256) (v := .agg (tabL 256).toArray) (t := 234) (by kernel_rfl) (by simp [Value.cells, tabL_len]) (by rw [tabL_len]; omega) (by
    intro u hu
    simp only [Value.cells, tabL, List.mem_map] at hu
    obtain ⟨i, _, rfl⟩ := hu
    split <;> rfl)
  have hsp : spl (tabL 0) 0 (Value.agg (tabL 256).toArray).cells.toList = tabL 256 := by
    simp only [spl, Value.cells, List.take_zero, List.nil_append, Nat.zero_add]
    rw [List.drop_of_length_le (by rw [tabL_len, tabL_len]; omega), List.append_nil]
  rw [hsp] at hS3
  refine ⟨_, w2, h2, w3, h3, ?_⟩
  have hsz := hr.size
  refine ⟨fun n σ w4 => ∃ k : Nat, k ≤ l.length ∧ n = l.length - k ∧ σ = ((k : Int), (((l.take k).foldl crcOne (4294967295 ^^^ 0) : Nat) : Int), ()) ∧ w4 = w3, l.length, ⟨0, by omega, rfl, ?_, rfl⟩, ?_⟩
  · have := inv_prog (c := 0) (by omega)
    simp only [List.take_zero, List.foldl_nil]
    rw [← this]
    rfl
  rintro n σ w4 ⟨k, hk, rfl, rfl, rfl⟩ _
  dsimp only
  have hlt := crcFold_lt (l.take k) (c := 4294967295 ^^^ 0) (by decide)
  generalize hcc : (l.take k).foldl crcOne (4294967295 ^^^ 0) = c at hlt
  refine brc_intro (fun h => ?_) (fun h => ?_)
  · have h : k < l.length := by simp at h; omega
    refine ⟨⟨by omega, by omega⟩, ?_⟩
    obtain ⟨a, ha, hat⟩ := (hr.right ((b1, .cells (tabL 256).toArray 234 (0, 0)) :: C)).idx (i := k) (v := byteV l[k]) (by simp [h]) hS3 (fun c hc => hc) (t := 5) (by kernel_rfl)
    rw [ha]
    refine ⟨((l[k].toNat : Nat) : Int), by simpa [byteV] using hat, ?_⟩
    rw [mix_prog hlt]
    have hm : (c ^^^ (l[k]).toNat) % 256 < 256 := Nat.mod_lt _ (by omega)
    generalize hi : (c ^^^ (l[k]).toNat) % 256 = i at hm
    refine ⟨⟨by omega, by omega⟩, ?_⟩
    refine ⟨((crcEntry i : Nat) : Int), ?_, by omega, l.length - (k + 1), by omega, k + 1, by omega, rfl, ?_, rfl⟩
    · rw [addr_add]
      refine hS3.load (v := .int .u32 ((crcEntry i : Nat) : Int)) List.mem_cons_self ?_ (by kernel_rfl)
      have := tab_at i hm
      simpa using this
    · rw [w64 (by omega) (by omega)]
      have hd : Int.fdiv ((c : Nat) : Int) (2 ^ (min (Int.toNat 8) (IntKind.bits .u32))) = ((c / 256 : Nat) : Int) := by
        change Int.fdiv ((c : Nat) : Int) 256 = _
        rw [Int.fdiv_eq_ediv_of_nonneg _ (by omega)]
        omega
      rw [hd, u32_xor (crcEntry_lt (by omega)) (by omega)]
      have ht : l.take (k + 1) = l.take k ++ [l[k]] := by rw [List.take_add_one]; simp [h]
      rw [ht, List.foldl_append, hcc]
      simp only [List.foldl_cons, List.foldl_nil, crcOne, hi]
      rfl
  · have h : k = l.length := by simp at h; omega
    subst h
    rw [inv_prog hlt]
    rw [List.take_length] at hcc
    refine ⟨?_, _ :: C, hS3⟩
    rw [← hcc]
    rfl

theorem k156 {E w : World} {L : List Chunk} {s : SV} {l : List UInt8} (hS : Sep E w L) (hr : RdB L s l) (hb : l.length ≤ 1099511627776) :
    Calls Pr 156 #[.slice s.a s.len s.cap] w fun e w' => e = .returned (.int .u32 ((crcSum l : Nat) : Int)) ∧ ∃ C, Sep E w' (C ++ L) := by
  refine call156 ?_
  unfold ir156
  refine (k167 hS hr hb).mono ?_
  rintro _ w1 ⟨rfl, C, hS1⟩
  exact ⟨_, rfl, rfl, C, hS1⟩

/-! ### Fixed numbers -/
def bigE (n : Nat) : Nat → List UInt8
  | 0 => []
  | k + 1 => UInt8.ofNat (n / 256 ^ k) :: bigE n k
def leL (n k : Nat) : List UInt8 := (List.range k).map fun i => UInt8.ofNat (n / 256 ^ i)

theorem bigE_len (n : Nat) : ∀ k, (bigE n k).length = k
  | 0 => rfl
  | k + 1 => by simp [bigE, bigE_len n k]
theorem leL_len (n k : Nat) : (leL n k).length = k := by simp [leL]
theorem leL_succ (n k : Nat) : leL n (k + 1) = leL n k ++ [UInt8.ofNat (n / 256 ^ k)] := by simp [leL, List.range_succ]

theorem shr8 (n i B : Nat) (h : 8 * i ≤ B) (hi : i < 100) : Int.fdiv ((n : Nat) : Int) (2 ^ (min (Int.toNat (IntKind.wrap .i64 (8 * ((i : Nat) : Int)))) B)) = ((n / 256 ^ i : Nat) : Int) := by
  rw [w64 (by omega) (by omega)]
  have h1 : Int.toNat (8 * ((i : Nat) : Int)) = 8 * i := by omega
  rw [h1, Nat.min_eq_left h]
  have h2 : (2 : Int) ^ (8 * i) = ((256 ^ i : Nat) : Int) := by
    rw [Int.natCast_pow, Int.pow_mul]
    rfl
  rw [h2, Int.fdiv_eq_ediv_of_nonneg _ (Int.natCast_nonneg _)]
  exact (Int.natCast_ediv _ _).symm

theorem k138 {E w : World} {L : List Chunk} {s : SV} {l : List UInt8} (hS : Sep E w L) (hr : RdB L s l) (hb : l.length ≤ 1099511627776) {n k : Nat} (hk : k ≤ 8) (hk0 : 0 < k) :
    Calls Pr 138 #[.slice s.a s.len s.cap, .int .u64 ((n : Nat) : Int), .int .i64 ((k : Nat) : Int)] w fun e w' => ∃ (s' : SV) (C : List Chunk), e = .returned (.slice s'.a s'.len s'.cap) ∧ Own 5 1 s' ((l ++ bigE n k).map byteV) C ∧ Sep E w' (C ++ L) := by
  refine call138 ?_
  unfold ir138
  refine (k88 hS hr hb).mono ?_
  rintro _ w1 ⟨s1, C, rfl, ho, hS1⟩
  refine ⟨s1, rfl, brc_false (decide_eq_false (by omega)) (brc_false (decide_eq_false (by omega)) ?_)⟩
  refine ⟨fun r σ w2 => ∃ (m : Nat) (l' : List UInt8) (C : List Chunk), m ≤ k ∧ r = m ∧ l'.length ≤ l.length + 8 ∧ σ.1 = ((m : Nat) : Int) - 1 ∧ l' ++ bigE n m = l ++ bigE n k ∧ Own 5 1 σ.2.1 (l'.map byteV) C ∧ Sep E w2 (C ++ L), k, ⟨k, l, C, Nat.le_refl _, rfl, by omega, w64 (by omega) (by omega), rfl, ho, hS1⟩, ?_⟩
  rintro r ⟨i, s2, u⟩ w2 ⟨m, l', C, hm, hrm, hl', hi, he, ho, hS2⟩ _
  dsimp only at hi ho ⊢
  subst hi
  refine brc_intro (fun h => ?_) (fun h => ?_)
  · have h : 0 < m := by simp at h; omega
    obtain ⟨m, rfl⟩ : ∃ m', m = m' + 1 := ⟨m - 1, by omega⟩
    have e0 : (((m + 1 : Nat) : Int) - 1) = ((m : Nat) : Int) := by omega
    rw [e0]
    refine ⟨by rw [w64 (by omega) (by omega)]; omega, ?_⟩
    rw [shr8 n m _ (by show 8 * m ≤ 64; omega) (by omega), wu8]
    obtain ⟨s3, w3, C3, h3, ho3, hS3⟩ := hS2.litB (n := 1) (parts := [(0, .int .u8 ((n / 256 ^ m % 256 : Nat) : Int))]) (l := [UInt8.ofNat (n / 256 ^ m)]) rfl (by omega) (by
      simp only [List.map_cons, List.map_nil, byteV_ofNat]
      kernel_rfl)
    refine ⟨s3, w3, h3, ?_⟩
    have hS3' : Sep E w3 (C ++ (C3 ++ L)) := hS3.weak (by intro f; simp only [ms_append, ms_cons, ms_nil]; omega)
    have hlen : (l' ++ bigE n (m + 1)).length = (l ++ bigE n k).length := by rw [he]
    simp only [List.length_append, bigE_len] at hlen
    obtain ⟨s4, w4, C4, h4, ho4, hS4⟩ := hS3'.appB (ty := 26) ho ((ho3.rdl L).right C) (by simp; omega)
    refine ⟨s4, w4, h4, m, by omega, m, _, C4, by omega, rfl, ?_, ?_, ?_, ho4, hS4.weak (by intro f; simp only [ms_append, ms_cons, ms_nil]; omega)⟩
    · simp; omega
    · show IntKind.wrap .i64 (((m : Nat) : Int) - 1) = _
      rw [w64 (by omega) (by omega)]
    · rw [← he]
      simp [bigE]
  · have h : m = 0 := by simp at h; omega
    subst h
    have he : l' = l ++ bigE n k := by simpa [bigE] using he
    subst he
    exact ⟨s2, C, rfl, ho, hS2⟩

/-! ### Frames -/
def le4 (n : Nat) : List UInt8 := leL n 4
def sealL (x : List UInt8) : List UInt8 := x ++ le4 (crcSum x)
def frameL (x : List UInt8) : List UInt8 := sealL (bigE x.length 4 ++ x)
theorem sealL_len (x : List UInt8) : (sealL x).length = x.length + 4 := by simp [sealL, le4, leL_len]
theorem frameL_len (x : List UInt8) : (frameL x).length = x.length + 8 := by simp [frameL, sealL_len, bigE_len]; omega

theorem Sep.copyB {E w : World} {F : List Chunk} {g n c : Nat} {cur : Array Value} {x : SV} {m : List UInt8} (hS : Sep E w ((g, .cells cur 5 (0, 0)) :: F)) (hx : RdB F x m) (hm : m.length ≤ n) (hn : n ≤ cur.size) {ty : Nat} :
    ∃ w', Sem.run Pr (Builtin.copy_ #[26, 26] ty #[.slice (some ⟨g, 0, none⟩) n c, .slice x.a x.len x.cap]) w = .ok (.int .i64 ((m.length : Nat) : Int)) w' ∧ Sep E w' ((g, .cells (m.map byteV ++ cur.toList.drop m.length).toArray 5 (0, 0)) :: F) := by
  have hsz := hx.size
  have hu : Pr.underlying 26 = some (.slice 5) := tiB.und
  have h1 : (Pr.info? 5).map (·.size) = some 1 := by kernel_rfl
  cases hxa : x.a with
  | none =>
    have h0 := hx.nil hxa
    have : m = [] := List.eq_nil_of_length_eq_zero (by omega)
    subst this
    refine ⟨w, ?_, by simpa using hS⟩
    exact run_copy_none w 26 26 ty 5 (some ⟨g, 0, none⟩) none n c x.len x.cap hu h1 (by rw [h0]; simp)
  | some a =>
    refine ⟨_, ?_, hS.setRow _⟩
    have hg := hS.at_ _ List.mem_cons_self
    have hsrc := hx.src (hS.weak (L' := F) (by intro f; simp only [ms_append, ms_cons, ms_nil]; omega)) fun c hc => hc
    have := run_copy_row (P := Pr) w 26 26 ty 5 g 0 n c a x.len x.cap cur 5 (m.map byteV) hu h1 hg (by rw [List.length_map, hsz]; exact (Nat.min_eq_left hm).symm) (hsrc.at_ a hxa) (by rw [List.length_map]; omega) (byteV_one m)
    simpa [goInt] using this

theorem spl_mid (A Z : List Value) (z v : Value) : spl (A ++ z :: Z) A.length [v] = A ++ v :: Z := by
  simp [spl]

theorem zerosL_u8 (n : Nat) : zerosL (.int .u8 0) (n * 1) = List.replicate n (.int .u8 0) := by
  apply List.ext_getElem
  · simp [zerosL]
  · intro i h1 h2
    simp [zerosL, Value.cells, Nat.mod_one]

/-- frame.Seal. -/
theorem k137 {E w : World} {L : List Chunk} {s : SV} {l : List UInt8} (hS : Sep E w L) (hr : RdB L s l) (hb : l.length ≤ 1000000000000) :
    Calls Pr 137 #[.slice s.a s.len s.cap] w fun e w' => ∃ (s' : SV) (C : List Chunk), e = .returned (.slice s'.a s'.len s'.cap) ∧ RdB C s' (sealL l) ∧ Sep E w' (C ++ L) := by
  refine call137 ?_
  unfold ir137
  have hsz := hr.size
  obtain ⟨g, w1, h1, hS1⟩ := hS.makeSlice tiB (n := l.length + 4) (by omega) (by omega)
  have hw : IntKind.wrap .i64 (((s.len : Nat) : Int) + 4) = ((l.length + 4 : Nat) : Int) := by rw [hsz, w64 (by omega) (by omega)]; omega
  rw [hw]
  refine ⟨⟨some ⟨g, 0, none⟩, l.length + 4, l.length + 4⟩, w1, h1, ?_⟩
  rw [zerosL_u8] at hS1
  obtain ⟨w2, h2, hS2⟩ := hS1.copyB (n := l.length + 4) (c := l.length + 4) (ty := 3) hr (by omega) (by simp)
  refine ⟨_, w2, h2, ?_⟩
  have hd : (List.replicate (l.length + 4) (Value.int .u8 0)).toArray.toList.drop l.length = List.replicate 4 (.int .u8 0) := by
    simp
  rw [hd] at hS2
  refine (k156 hS2 (hr.tail _) (by omega)).mono ?_
  rintro _ w3 ⟨rfl, C, hS3⟩
  refine ⟨_, rfl, ⟨by omega, by simp only [hsz]; omega⟩, ?_⟩
  refine ⟨fun r σ w4 => ∃ k : Nat, k ≤ 4 ∧ r = 4 - k ∧ σ = ((k : Int), ()) ∧ Sep E w4 ((g, .cells ((l ++ leL (crcSum l) k).map byteV ++ List.replicate (4 - k) (Value.int .u8 0)).toArray 5 (0, 0)) :: (C ++ L)), 4, ⟨0, by omega, rfl, rfl, ?_⟩, ?_⟩
  · have e0 : (l ++ leL (crcSum l) 0).map byteV ++ List.replicate (4 - 0) (Value.int .u8 0) = l.map byteV ++ List.replicate 4 (.int .u8 0) := by simp [leL]
    rw [e0]
    exact hS3.weak (by intro f; simp only [ms_append, ms_cons, ms_nil]; omega)
  rintro r σ w4 ⟨k, hk, rfl, rfl, hS4⟩ _
  dsimp only
  have e1 : l.length + 4 - Int.toNat ((s.len : Nat) : Int) = 4 := by rw [hsz]; simp
  rw [e1]
  refine brc_intro (fun h => ?_) (fun h => ?_)
  · have h : k < 4 := by simp at h; omega
    have e2 : IntKind.wrap .i64 (((s.len : Nat) : Int) + ((k : Nat) : Int)) = ((l.length + k : Nat) : Int) := by rw [hsz, w64 (by omega) (by omega)]; omega
    rw [e2, shr8 _ k _ (by show 8 * k ≤ 32; omega) (by omega), wu8]
    have hx : (l ++ leL (crcSum l) k).map byteV ++ List.replicate (4 - k) (Value.int .u8 0) = (l ++ leL (crcSum l) k).map byteV ++ (.int .u8 0) :: List.replicate (4 - (k + 1)) (.int .u8 0) := by
      rw [show 4 - k = (4 - (k + 1)) + 1 by omega]
      rfl
    rw [hx] at hS4
    have hlen : ((l ++ leL (crcSum l) k).map byteV).length = l.length + k := by simp [leL_len]
    obtain ⟨w5, h5, hS5⟩ := hS4.store (o := l.length + k) (n := 1) (v := .int .u8 ((crcSum l / 256 ^ k % 256 : Nat) : Int)) (t := 5) (by kernel_rfl) rfl (by rw [List.length_append, hlen]; simp) (by simp [Value.cells, Value.oneCell'])
    refine ⟨by rw [w64 (by omega) (by omega)]; omega, ⟨by omega, by omega⟩, w5, ?_, 4 - (k + 1), by omega, k + 1, by omega, rfl, ?_, ?_⟩
    · simp only [Int.toNat_natCast, Nat.mul_one, addr_add, Nat.zero_add]
      exact h5
    · rw [w64 (by omega) (by omega)]
      rfl
    · have hm := spl_mid ((l ++ leL (crcSum l) k).map byteV) (List.replicate (4 - (k + 1)) (.int .u8 0)) (.int .u8 0) (.int .u8 ((crcSum l / 256 ^ k % 256 : Nat) : Int))
      rw [hlen] at hm
      have hm' : spl ((l ++ leL (crcSum l) k).map byteV ++ (.int .u8 0) :: List.replicate (4 - (k + 1)) (.int .u8 0)) (l.length + k) (Value.int .u8 ((crcSum l / 256 ^ k % 256 : Nat) : Int)).cells.toList = (l ++ leL (crcSum l) (k + 1)).map byteV ++ List.replicate (4 - (k + 1)) (.int .u8 0) := by
        refine hm.trans ?_
        rw [leL_succ, ← List.append_assoc, List.map_append (l₁ := l ++ leL (crcSum l) k), List.map_cons, List.map_nil, byteV_ofNat]
        simp
      rw [hm'] at hS5
      exact hS5
  · have h : k = 4 := by simp at h; omega
    subst h
    refine ⟨⟨some ⟨g, 0, none⟩, l.length + 4, l.length + 4⟩, _ :: C, rfl, ?_, hS4⟩
    refine RdS.mono (I := [_]) (Own.rds (Own.new (T := 5) (g := g) (n := l.length + 4) (vs := (sealL l).map byteV) (by simp [sealL_len]) (by unfold maxLen; omega))) fun c hc => ?_
    rw [List.mem_singleton] at hc
    subst hc
    simp [sealL, le4]

theorem Sep.litBs {E w : World} {L : List Chunk} (hS : Sep E w L) {n : Nat} {parts : List (Nat × Value)} {ss : List SV} (hl : ss.length = n) (hn : n ≤ 1099511627776) (hv : bsV Pr 22 n parts = some (ss.map slV)) :
    ∃ (s : SV) (w' : World) (C : List Chunk), Sem.run Pr (Instr.buildSlice 22 n parts.toArray) w = .ok (.slice s.a s.len s.cap) w' ∧ Own 26 1 s (ss.map slV) C ∧ Sep E w' (C ++ L) := by
  obtain ⟨b, w1, h1, hS1⟩ := hS.buildSlice (t := 22) (T := 26) (by kernel_rfl) hv
  exact ⟨⟨some ⟨b, 0, none⟩, n, n⟩, w1, _, h1, Own.new (by simp [hl]) (by unfold maxLen; omega), hS1⟩

/-- Two slices of bytes, one behind the other. -/
theorem Sep.join {E w : World} {L : List Chunk} (hS : Sep E w L) {s t : SV} {l m : List UInt8} (hs : RdB L s l) (ht : RdB L t m) (hb : l.length + m.length ≤ 1099511627776) :
    ∃ (s1 : SV) (w1 : World), Sem.run Pr (Instr.buildSlice 22 2 #[(0, .slice s.a s.len s.cap), (1, .slice t.a t.len t.cap)]) w = .ok (.slice s1.a s1.len s1.cap) w1 ∧
      Calls Pr 94 #[.slice s1.a s1.len s1.cap] w1 fun e w' => ∃ (s' : SV) (C : List Chunk), e = .returned (.slice s'.a s'.len s'.cap) ∧ RdB C s' (l ++ m) ∧ Sep E w' (C ++ L) := by
  obtain ⟨s1, w1, C, h1, ho, hS1⟩ := hS.litBs (n := 2) (parts := [(0, .slice s.a s.len s.cap), (1, .slice t.a t.len t.cap)]) (ss := [s, t]) rfl (by omega) (by kernel_rfl)
  refine ⟨s1, w1, h1, (k94 (ls := [l, m]) hS1 (ho.rdl L) (((RdBs.nil L).cons ht).cons hs |>.mono fun c hc => List.mem_append_right _ hc) (by simp) (by simpa using hb)).mono ?_⟩
  rintro _ w2 ⟨s2, C2, rfl, ho2, hS2⟩
  refine ⟨s2, C2 ++ C, rfl, ?_, by rw [List.append_assoc]; exact hS2⟩
  have := ho2.rdl C
  simpa [RdB] using this

/-- frame.Put. -/
theorem k84 {E w : World} {L : List Chunk} {s x : SV} {l m : List UInt8} (hS : Sep E w L) (hs : RdB L s l) (hx : RdB L x m) (hb : l.length ≤ 1000000000) (hm : m.length ≤ 4096) :
    Calls Pr 84 #[.slice s.a s.len s.cap, .slice x.a x.len x.cap] w fun e w' => ∃ (s' : SV) (C : List Chunk), e = .returned (.tuple #[.slice s'.a s'.len s'.cap, .int .i64 0]) ∧ RdB C s' (l ++ frameL m) ∧ Sep E w' (C ++ L) := by
  refine call84 ?_
  unfold ir84
  have hsz := hx.size
  refine brc_false (decide_eq_false (by omega)) ?_
  have hw : IntKind.wrap .u64 ((x.len : Nat) : Int) = ((m.length : Nat) : Int) := by rw [hsz, IntKind.wrap_u64]; omega
  rw [hw]
  refine (k138 (s := SV.nil) (l := []) hS (RdS.none L 1) (by simp) (n := m.length) (k := 4) (by omega) (by omega)).mono ?_
  rintro _ w1 ⟨s1, C1, rfl, ho1, hS1⟩
  refine ⟨s1, rfl, ?_⟩
  obtain ⟨s2, w2, h2, hc2⟩ := hS1.join (ho1.rdl L) (hx.right C1) (by simp [bigE_len]; omega)
  refine ⟨s2, w2, h2, hc2.mono ?_⟩
  rintro _ w3 ⟨s3, C3, rfl, hr3, hS3⟩
  refine ⟨s3, rfl, (k137 hS3 (hr3.left _) (by simp [bigE_len]; omega)).mono ?_⟩
  rintro _ w4 ⟨s4, C4, rfl, hr4, hS4⟩
  refine ⟨s4, rfl, ?_⟩
  have hlen : (sealL ([] ++ bigE m.length 4 ++ m)).length = m.length + 8 := by simp [sealL_len, bigE_len]; omega
  obtain ⟨s5, w5, h5, hc5⟩ := hS4.join (((hs.right C1).right C3).right C4) (hr4.left _) (by rw [hlen]; omega)
  refine ⟨s5, w5, h5, hc5.mono ?_⟩
  rintro _ w6 ⟨s6, C6, rfl, hr6, hS6⟩
  refine ⟨s6, rfl, s6, C6 ++ (C4 ++ (C3 ++ C1)), rfl, ?_, ?_⟩
  · exact hr6.left _
  · simp only [List.append_assoc]
    exact hS6

end Go.Proofs.Ytonjaaljnjjjcaa

/- The program's disk: how it lies, and its contracts. Conditions: as each lemma says. -/
set_option linter.unusedVariables false
set_option linter.unusedSimpArgs false
namespace Go.Proofs.Ytonjaaljnjjjcaa
open Go Go.RowKit

/-! ### Maps with keys of their own -/
structure MapWf {K : Type} (l : List (Ent K)) (c : Nat) : Prop where
  keys : (l.map (·.k)).Nodup
  born : ∀ e ∈ l, e.born < c
  borns : (l.map (·.born)).Nodup

section
variable {K : Type} [DecidableEq K]

theorem getE_setE (k : K) (v : Value) (c : Nat) (j : K) : ∀ l : List (Ent K), getE j (setE k v c l) = if j = k then some v else getE j l
  | [] => by
    by_cases h : j = k
    · simp [setE, getE, h]
    · have : ¬ k = j := fun e => h e.symm
      simp [setE, getE, h, this]
  | x :: l => by
    unfold setE
    by_cases hx : x.k = k
    · rw [if_pos hx]
      by_cases h : j = k
      · simp [getE, h]
      · have : ¬ k = j := fun e => h e.symm
        have h2 : ¬ x.k = j := fun e => h (e.symm.trans hx)
        simp [getE, h, this, h2]
    · rw [if_neg hx]
      unfold getE
      rw [getE_setE k v c j l]
      by_cases hxj : x.k = j
      · have : ¬ j = k := fun e => hx (hxj.trans e)
        simp [hxj, this]
      · simp [hxj]

theorem getE_none {k : K} : ∀ {l : List (Ent K)}, getE k l = none ↔ ∀ e ∈ l, e.k ≠ k
  | [] => by simp [getE]
  | x :: l => by
    unfold getE
    by_cases hx : x.k = k
    · simp [hx]
    · rw [if_neg hx, getE_none (l := l)]
      simp [hx]

theorem getE_delE (k j : K) : ∀ l : List (Ent K), (l.map (·.k)).Nodup → getE j (delE k l) = if j = k then none else getE j l
  | [], _ => by simp [delE, getE]
  | x :: l, h => by
    rw [List.map_cons, List.nodup_cons] at h
    unfold delE
    by_cases hx : x.k = k
    · rw [if_pos hx]
      by_cases hj : j = k
      · rw [if_pos hj, getE_none]
        intro e he h2
        exact h.1 (List.mem_map.2 ⟨e, he, by rw [h2, hj, hx]⟩)
      · have : ¬ x.k = j := fun e => hj (e.symm.trans hx)
        simp [getE, hj, this]
    · rw [if_neg hx]
      unfold getE
      rw [getE_delE k j l h.2]
      by_cases hxj : x.k = j
      · have : ¬ j = k := fun e => hx (hxj.trans e)
        simp [hxj, this]
      · simp [hxj]

theorem delE_sub (k : K) : ∀ l : List (Ent K), (delE k l).Sublist l
  | [] => List.Sublist.refl _
  | x :: l => by
    unfold delE
    split
    · exact List.sublist_cons_self x l
    · exact (delE_sub k l).cons_cons x

theorem MapWf.del {l : List (Ent K)} {c : Nat} (h : MapWf l c) (k : K) : MapWf (delE k l) c :=
  ⟨((delE_sub k l).map _).nodup h.keys, fun e he => h.born e ((delE_sub k l).subset he), ((delE_sub k l).map _).nodup h.borns⟩

theorem setE_keys (k : K) (v : Value) (c : Nat) : ∀ l : List (Ent K), (setE k v c l).map (·.k) = if (getE k l).isSome then l.map (·.k) else l.map (·.k) ++ [k]
  | [] => rfl
  | x :: l => by
    unfold setE getE
    by_cases hx : x.k = k
    · rw [if_pos hx, if_pos hx]
      simp [hx]
    · rw [if_neg hx, if_neg hx, List.map_cons, setE_keys k v c l]
      split <;> simp

theorem setE_borns (k : K) (v : Value) (c : Nat) : ∀ l : List (Ent K), (setE k v c l).map (·.born) = if (getE k l).isSome then l.map (·.born) else l.map (·.born) ++ [c]
  | [] => rfl
  | x :: l => by
    unfold setE getE
    by_cases hx : x.k = k
    · rw [if_pos hx, if_pos hx]
      simp
    · rw [if_neg hx, if_neg hx, List.map_cons, setE_borns k v c l]
      split <;> simp

theorem MapWf.set {l : List (Ent K)} {c : Nat} (h : MapWf l c) (k : K) (v : Value) : MapWf (setE k v c l) (if (getE k l).isSome then c else c + 1) := by
  have hb : ∀ b ∈ (setE k v c l).map (·.born), b < if (getE k l).isSome then c else c + 1 := by
    rw [setE_borns]
    split
    · intro b hb
      obtain ⟨e, he, rfl⟩ := List.mem_map.1 hb
      exact h.born e he
    · intro b hb
      rcases List.mem_append.1 hb with hb | hb
      · obtain ⟨e, he, rfl⟩ := List.mem_map.1 hb
        have := h.born e he
        omega
      · simp at hb; omega
  refine ⟨?_, fun e he => hb _ (List.mem_map.2 ⟨e, he, rfl⟩), ?_⟩
  · rw [setE_keys]
    split
    · exact h.keys
    · rename_i hn
      have hn : getE k l = none := by simpa using hn
      rw [List.nodup_append]
      refine ⟨h.keys, by simp, fun a ha b hb => ?_⟩
      simp at hb
      subst hb
      obtain ⟨e, he, rfl⟩ := List.mem_map.1 ha
      exact getE_none.1 hn e he
  · rw [setE_borns]
    split
    · exact h.borns
    · rw [List.nodup_append]
      refine ⟨h.borns, by simp, fun a ha b hb => ?_⟩
      simp at hb
      subst hb
      obtain ⟨e, he, rfl⟩ := List.mem_map.1 ha
      have := h.born e he
      omega

theorem MapWf.nil (K : Type) : MapWf ([] : List (Ent K)) 0 := ⟨by simp, by simp, by simp⟩
end

/-! ### How a disk lies -/
structure FRec where
  b : Nat
  s : SV
  f : MFile
def fChunk (r : FRec) : Chunk := (r.b, .cells #[slV r.s, .int .i64 (r.f.kept : Int)] 146 (0, 0))
def filePtr (bs : List Nat) (i : Nat) : Option Addr := (bs[i]?).map fun b => ⟨b, 0, none⟩
def dChunk (M : MDisk) (d mn mk : Nat) (cs : SV) : Chunk := (d, .cells #[.map (some mn), .map (some mk), slV cs, .int .i64 (M.room : Int), .bool M.down, .bool M.doomed, .int .i64 (M.left : Int)] 140 (0, 0))
def chV (bs : List Nat) (c : MChange) : List Value := [.string c.gone, .string c.new, .pointer (if c.new = noName then none else filePtr bs c.file)]

structure NameRep (bs : List Nat) (nm : Names) (l : List (Ent ByteArray)) (c : Nat) : Prop where
  wf : MapWf l c
  get : ∀ k, getE k l = (findN k nm).map fun i => Value.pointer (filePtr bs i)
  ids : ∀ k i, findN k nm = some i → i < bs.length
  sorted : SortedN nm

structure DS where
  fs : List FRec
  mn : Nat
  mq : Nat
  ln : List (Ent ByteArray)
  lk : List (Ent ByteArray)
  cn : Nat
  ck : Nat
  cs : SV
  CC : List Chunk

def DS.bs (D : DS) : List Nat := D.fs.map (·.b)
abbrev strM (m : Nat) (l : List (Ent ByteArray)) (c : Nat) : Chunk := mapC Value.string m l c
def DS.chunks (D : DS) (M : MDisk) (d : Nat) : List Chunk := dChunk M d D.mn D.mq D.cs :: strM D.mn D.ln D.cn :: strM D.mq D.lk D.ck :: (D.CC ++ D.fs.map fChunk)

structure DRep (D : DS) (M : MDisk) (L : List Chunk) : Prop where
  files : D.fs.map (·.f) = M.files
  bytes : ∀ r ∈ D.fs, RdB L r.s r.f.bytes
  now : NameRep D.bs M.now D.ln D.cn
  kept : NameRep D.bs M.kept D.lk D.ck
  own : Own 153 3 D.cs (M.changes.flatMap (chV D.bs)) D.CC
  chOk : ∀ c ∈ M.changes, c.new ≠ noName → c.file < D.bs.length

theorem DRep.mono {D : DS} {M : MDisk} {L L' : List Chunk} (h : DRep D M L) (hL : ∀ c ∈ L, c ∈ L') : DRep D M L' := ⟨h.files, fun r hr => (h.bytes r hr).mono hL, h.now, h.kept, h.own, h.chOk⟩
theorem DRep.right {D : DS} {M : MDisk} {L : List Chunk} (h : DRep D M L) (C : List Chunk) : DRep D M (C ++ L) := h.mono fun c hc => List.mem_append_right _ hc

theorem DRep.ready {D : DS} {M : MDisk} {L : List Chunk} (h : DRep D M L) : DRep D M.ready.2 L := by
  obtain ⟨h1, h2, h3, h4, _⟩ := ready_same M
  exact ⟨h1 ▸ h.files, h.bytes, h2 ▸ h.now, h3 ▸ h.kept, by rw [h4]; exact h.own, by rw [h4]; exact h.chOk⟩

/-! ### Contracts -/
theorem k91 {E w : World} {L : List Chunk} {M : MDisk} {d mn mk : Nat} {cs : SV} (hl : M.left ≤ 9223372036854775807) (hS : Sep E w (dChunk M d mn mk cs :: L)) :
    Calls Pr 91 #[.pointer (some ⟨d, 0, none⟩)] w fun e w' => e = .returned (.int .i64 M.ready.1) ∧ Sep E w' (dChunk M.ready.2 d mn mk cs :: L) := by
  refine call91 ?_
  unfold ir91
  refine brc_false rfl ?_
  refine ⟨M.down, hS.load (o := 4) List.mem_cons_self rfl (by kernel_rfl), brc_intro (fun h => ?_) (fun h => ?_)⟩
  · have : M.ready = (40, M) := by simp [MDisk.ready, h]
    rw [this]
    exact ⟨rfl, hS⟩
  refine ⟨M.doomed, hS.load (o := 5) List.mem_cons_self rfl (by kernel_rfl), brc_intro (fun h' => ?_) (fun h' => ?_)⟩
  · refine ⟨(M.left : Int), hS.load (o := 6) List.mem_cons_self rfl (by kernel_rfl), brc_intro (fun h2 => ?_) (fun h2 => ?_)⟩
    · have h2 : M.left = 0 := by simpa using h2
      have : M.ready = (40, { M with down := true }) := by simp [MDisk.ready, h, h', h2]
      rw [this]
      obtain ⟨w1, h1, hS1⟩ := hS.store (o := 4) (n := 1) (v := .bool true) (t := 4) (by kernel_rfl) rfl (by simp) (by simp [Value.cells, Value.oneCell'])
      exact ⟨w1, h1, rfl, hS1⟩
    · have h2 : ¬ M.left = 0 := by simpa using h2
      have : M.ready = (0, { M with left := M.left - 1 }) := by simp [MDisk.ready, h, h', h2]
      rw [this]
      refine ⟨M.doomed, hS.load (o := 5) List.mem_cons_self rfl (by kernel_rfl), brc_true h' ?_⟩
      refine ⟨(M.left : Int), hS.load (o := 6) List.mem_cons_self rfl (by kernel_rfl), ?_⟩
      have hw : IntKind.wrap .i64 ((M.left : Int) - 1) = ((M.left - 1 : Nat) : Int) := by rw [w64 (by omega) (by omega)]; omega
      rw [hw]
      obtain ⟨w1, h1, hS1⟩ := hS.store (o := 6) (n := 1) (v := .int .i64 ((M.left - 1 : Nat) : Int)) (t := 3) (by kernel_rfl) rfl (by simp) (by simp [Value.cells, Value.oneCell'])
      exact ⟨w1, h1, rfl, hS1⟩
  · refine ⟨M.doomed, hS.load (o := 5) List.mem_cons_self rfl (by kernel_rfl), brc_false h' ?_⟩
    have : M.ready = (0, M) := by simp [MDisk.ready, h, h']
    rw [this]
    exact ⟨rfl, hS⟩

theorem k92 (w : World) (n : ByteArray) : Calls Pr 92 #[.string n] w fun e w' => e = .returned (.bool (MDisk.right n)) ∧ w' = w := by
  refine call92 ?_
  unfold ir92
  refine brc_intro (fun h => ?_) (fun h => ?_)
  · refine ⟨?_, rfl⟩
    have h : 1 ≤ n.size := by simp at h; omega
    congr 2
    simp only [MDisk.right, h, decide_true, Bool.true_and]
    rw [decide_eq_decide]
    omega
  · refine ⟨?_, rfl⟩
    have h : ¬ 1 ≤ n.size := by simp at h; omega
    simp [MDisk.right, h]

end Go.Proofs.Ytonjaaljnjjjcaa

/- The program's disk: contracts of its single steps. Conditions: as each lemma says. -/
set_option linter.unusedVariables false
set_option linter.unusedSimpArgs false
namespace Go.Proofs.Ytonjaaljnjjjcaa
open Go Go.RowKit

theorem u137 : Pr.underlying 137 = some (.map 9 141) := by kernel_rfl
theorem z141 : (Pr.info? 141).bind (·.zero) = some (.pointer none) := by kernel_rfl
theorem u9 : Pr.underlying 9 = some .string := by kernel_rfl

/-- What a look-up of a name yields. -/
theorem NameRep.look {bs : List Nat} {nm : Names} {l : List (Ent ByteArray)} {c : Nat} (h : NameRep bs nm l c) {E w : World} {L : List Chunk} {m : Nat} (hS : Sep E w L) (hm : strM m l c ∈ L) (k : ByteArray) :
    At Pr w (Instr.lookup 137 (.map (some m)) (.string k) false) (.pointer ((findN k nm).bind (filePtr bs))) := by
  have := hS.lookup (mt := 137) hm u137 z141 (keyOk_str u9 w l k)
  rw [h.get k] at this
  cases hf : findN k nm with
  | none => simpa [hf] using this
  | some i => simpa [hf] using this

theorem filePtr_some {bs : List Nat} {i : Nat} (h : i < bs.length) : filePtr bs i = some ⟨bs[i], 0, none⟩ := by simp [filePtr, h]

theorem k87 {E w : World} {L I : List Chunk} {M : MDisk} {D : DS} {d : Nat} (hl : M.left ≤ 9223372036854775807) (hS : Sep E w (D.chunks M d ++ L)) (hD : DRep D M I) (n : ByteArray) :
    Calls Pr 87 #[.pointer (some ⟨d, 0, none⟩), .string n] w fun e w' => e = .returned (.tuple #[.pointer ((M.find n).2.1.bind (filePtr D.bs)), .int .i64 (M.find n).1]) ∧ Sep E w' (D.chunks M.ready.2 d ++ L) := by
  refine call87 ?_
  unfold ir87
  refine (k91 (L := _) hl hS).mono ?_
  rintro _ w1 ⟨rfl, hS1⟩
  have hS1 : Sep E w1 (D.chunks M.ready.2 d ++ L) := hS1
  have hD1 := hD.ready
  refine ⟨M.ready.1, rfl, brc_intro (fun h => ?_) (fun h => ?_)⟩
  · have h : M.ready.1 ≠ 0 := by simpa using h
    have hf : M.find n = (M.ready.1, none, M.ready.2) := by simp [MDisk.find, h]
    rw [hf]
    exact ⟨rfl, hS1⟩
  · have h : M.ready.1 = 0 := by simpa using h
    refine ⟨some D.mn, hS1.load (o := 0) List.mem_cons_self rfl (by kernel_rfl), _, hD1.now.look hS1 (List.mem_cons_of_mem _ List.mem_cons_self) n, ?_⟩
    cases hf : findN n M.ready.2.now with
    | none =>
      have hf' : M.find n = (2, none, M.ready.2) := by simp [MDisk.find, h, hf]
      rw [hf']
      exact brc_true rfl ⟨rfl, hS1⟩
    | some i =>
      have hf' : M.find n = (0, some i, M.ready.2) := by simp [MDisk.find, h, hf]
      rw [hf']
      have hi := hD1.now.ids n i hf
      refine brc_false ?_ ⟨rfl, hS1⟩
      simp [filePtr_some hi]

theorem ba_ne (s : ByteArray) : (!(ByteArray.toList s == ByteArray.toList (⟨#[]⟩ : ByteArray))) = decide (s ≠ noName) := by
  rw [ba_eq_toList]
  show (!decide (s = noName)) = _
  simp

/-- names.do. -/
theorem k109 {E w : World} {L : List Chunk} {m c : Nat} {l : List (Ent ByteArray)} {gone new : ByteArray} {p : Option Addr} (hS : Sep E w (strM m l c :: L)) (hw : MapWf l c) :
    Calls Pr 109 #[.map (some m), .agg #[.string gone, .string new, .pointer p]] w fun e w' => ∃ (l' : List (Ent ByteArray)) (c' : Nat) (C : List Chunk), e = .returned (.tuple #[]) ∧ MapWf l' c' ∧ Sep E w' (strM m l' c' :: (C ++ L)) ∧
      ∀ k, getE k l' = if new ≠ noName ∧ k = new then some (.pointer p) else if k = gone then none else getE k l := by
  refine call109 ?_
  unfold ir109
  obtain ⟨b, w1, h1, hS1⟩ := hS.newVar (t := 153) (v := .agg #[.string gone, .string new, .pointer p])
  refine ⟨_, w1, h1, gone, hS1.load (o := 0) List.mem_cons_self rfl (by kernel_rfl), ?_⟩
  have hS1' : Sep E w1 (strM m l c :: (b, .cells (Value.agg #[.string gone, .string new, .pointer p]).cells 153 (0, 0)) :: L) := hS1.weak (by intro f; simp only [ms_append, ms_cons, ms_nil]; omega)
  obtain ⟨w2, h2, hS2⟩ := hS1'.delete (mt := 137) u137 (keyOk_str u9 w1 l gone) (kt' := 9) (ty := 0)
  refine ⟨w2, h2, new, hS2.load (o := 1) (List.mem_cons_of_mem _ List.mem_cons_self) rfl (by kernel_rfl), ?_⟩
  rw [ba_ne]
  refine brc_intro (fun h => ?_) (fun h => ?_)
  · have h : new ≠ noName := by simpa using h
    refine ⟨new, hS2.load (o := 1) (List.mem_cons_of_mem _ List.mem_cons_self) rfl (by kernel_rfl), p, hS2.load (o := 2) (List.mem_cons_of_mem _ List.mem_cons_self) rfl (by kernel_rfl), ?_⟩
    obtain ⟨w3, h3, hS3⟩ := hS2.mapUpdate (mt := 137) u137 (.pointer p) (keyOk_str u9 w2 (delE gone l) new)
    refine ⟨w3, h3, _, _, [_], rfl, (hw.del gone).set new _, hS3, fun k => ?_⟩
    rw [getE_setE, getE_delE _ _ _ hw.keys]
    simp [h]
  · have h : new = noName := by simpa using h
    refine ⟨_, _, [_], rfl, hw.del gone, hS2, fun k => ?_⟩
    rw [getE_delE _ _ _ hw.keys]
    simp [h]

theorem NameRep.step {bs : List Nat} {nm : Names} {l l' : List (Ent ByteArray)} {c c' : Nat} (h : NameRep bs nm l c) {x : MChange} (hw : MapWf l' c') (hf : x.new ≠ noName → x.file < bs.length)
    (hg : ∀ k, getE k l' = if x.new ≠ noName ∧ k = x.new then some (.pointer (if x.new = noName then none else filePtr bs x.file)) else if k = x.gone then none else getE k l) : NameRep bs (doN nm x) l' c' := by
  refine ⟨hw, fun k => ?_, fun k i hi => ?_, doN_sorted h.sorted x⟩
  · rw [hg, findN_do]
    split
    · rename_i h1
      simp [h1.1]
    · split
      · rfl
      · exact h.get k
  · rw [findN_do] at hi
    split at hi
    · rename_i h1
      simp only [Option.some.injEq] at hi
      subst hi
      exact hf h1.1
    · split at hi
      · cases hi
      · exact h.ids k i hi

theorem ti138 : TI 138 153 3 40 (.agg #[.string ByteArray.empty, .string ByteArray.empty, .pointer none]) := ⟨by kernel_rfl, by kernel_rfl, rfl, by decide⟩

theorem chV_len (bs : List Nat) (l : List MChange) : (l.flatMap (chV bs)).length = l.length * 3 := by
  induction l with
  | nil => rfl
  | cons c l ih => simp [chV, ih]; omega

theorem chV_one (bs : List Nat) (l : List MChange) : ∀ u ∈ l.flatMap (chV bs), u.oneCell' = true := by
  intro u hu
  obtain ⟨c, _, hu⟩ := List.mem_flatMap.1 hu
  simp [chV] at hu
  rcases hu with rfl | rfl | rfl <;> rfl

/-- changed. -/
theorem k93 {E w : World} {L I : List Chunk} {M : MDisk} {D : DS} {d : Nat} {x : MChange} (hS : Sep E w (D.chunks M d ++ L)) (hD : DRep D M I) (hx : x.new ≠ noName → x.file < D.bs.length) (hc : M.changes.length ≤ 1099511627776) :
    Calls Pr 93 #[.pointer (some ⟨d, 0, none⟩), .agg #[.string x.gone, .string x.new, .pointer (if x.new = noName then none else filePtr D.bs x.file)]] w fun e w' => ∃ (D' : DS) (C : List Chunk), e = .returned (.tuple #[]) ∧ DRep D' (M.chg x) I ∧ Sep E w' (D'.chunks (M.chg x) d ++ (C ++ L)) := by
  refine call93 ?_
  unfold ir93
  obtain ⟨b, w1, h1, hS1⟩ := hS.newVar (t := 153) (v := .agg #[.string x.gone, .string x.new, .pointer (if x.new = noName then none else filePtr D.bs x.file)])
  generalize hp : (if x.new = noName then none else filePtr D.bs x.file) = p at *
  refine ⟨_, w1, h1, fun w => Sep E w ((b, .cells (Value.agg #[.string x.gone, .string x.new, .pointer p]).cells 153 (0, 0)) :: (D.chunks M d ++ L)), hS1.drew, ?_⟩
  refine ⟨some D.mn, fun w hw => hw.load (o := 0) (List.mem_cons_of_mem _ List.mem_cons_self) rfl (by kernel_rfl), x.gone, x.new, p, fun w hw => hw.loadS (o := 0) (n := 3) List.mem_cons_self (by kernel_rfl) (by kernel_rfl) rfl (by simp [Value.cells]), ?_⟩
  have hS1' : Sep E (World.drew w1) (strM D.mn D.ln D.cn :: (dChunk M d D.mn D.mq D.cs :: (b, .cells (Value.agg #[.string x.gone, .string x.new, .pointer p]).cells 153 (0, 0)) :: (strM D.mq D.lk D.ck :: (D.CC ++ D.fs.map fChunk) ++ L))) := hS1.drew.weak (by intro f; simp only [DS.chunks, ms_append, ms_cons, ms_nil]; omega)
  refine (k109 hS1' hD.now.wf).mono ?_
  rintro _ w2 ⟨l', c', C, rfl, hw', hS2, hg⟩
  refine ⟨rfl, fun _ => True, trivial, ?_⟩
  have hbn := hD.now.step hw' hx (by rw [hp]; exact hg)
  let F : List Chunk := (b, .cells (Value.agg #[.string x.gone, .string x.new, .pointer p]).cells 153 (0, 0)) :: dChunk M d D.mn D.mq D.cs :: (strM D.mn l' c' :: strM D.mq D.lk D.ck :: (D.CC ++ D.fs.map fChunk) ++ (C ++ L))
  have hS2' : Sep E (World.drew w2) F := hS2.drew.weak (by intro f; simp only [F, ms_append, ms_cons, ms_nil]; omega)
  refine ⟨fun w => Sep E w [(b, .cells (Value.agg #[.string x.gone, .string x.new, .pointer p]).cells 153 (0, 0)), dChunk M d D.mn D.mq D.cs], hS2'.weak (by intro f; simp only [F, ms_append, ms_cons, ms_nil]; omega), D.cs, fun w hw => hw.load (o := 2) (List.mem_cons_of_mem _ List.mem_cons_self) rfl (by kernel_rfl), x.gone, x.new, p, fun w hw => hw.loadS (o := 0) (n := 3) List.mem_cons_self (by kernel_rfl) (by kernel_rfl) rfl (by simp [Value.cells]), ?_⟩
  obtain ⟨g, w3, h3, hS3⟩ := hS2'.buildSlice (t := 138) (T := 153) (len := 1) (parts := [(0, .agg #[.string x.gone, .string x.new, .pointer p])]) (vs := [.string x.gone, .string x.new, .pointer p]) (by kernel_rfl) (by kernel_rfl)
  refine ⟨⟨some ⟨g, 0, none⟩, 1, 1⟩, w3, h3, _, fun w hw => hw, hS3.weak (by intro f; simp only [F, ms_append, ms_cons, ms_nil]; omega), ?_⟩
  have hS3' : Sep E w3 (D.CC ++ ((g, .cells [Value.string x.gone, .string x.new, .pointer p].toArray 153 (0, 0)) :: (b, .cells (Value.agg #[.string x.gone, .string x.new, .pointer p]).cells 153 (0, 0)) :: dChunk M d D.mn D.mq D.cs :: (strM D.mn l' c' :: strM D.mq D.lk D.ck :: D.fs.map fChunk ++ (C ++ L)))) := hS3.weak (by intro f; simp only [F, ms_append, ms_cons, ms_nil]; omega)
  have hlen : D.cs.len = M.changes.length := by
    have := hD.own.len
    rw [chV_len] at this
    omega
  have hsrc : RdS [(g, Obj.cells [Value.string x.gone, .string x.new, .pointer p].toArray 153 (0, 0))] 3 ⟨some ⟨g, 0, none⟩, 1, 1⟩ [.string x.gone, .string x.new, .pointer p] := (Own.new (T := 153) (g := g) (n := 1) rfl (by decide)).rds
  obtain ⟨s', w4, C4, h4, ho4, _, hS4⟩ := Sep.append (ty := 138) ti138 hS3' hD.own (hsrc.src hS3' fun c hc => by simp at hc; subst hc; simp) (by simp [Value.oneCell']) (by show (D.cs.len + 1) * 40 ≤ _; omega) (by show D.cs.len + 1 ≤ maxLen; unfold maxLen; omega)
  refine ⟨s', w4, h4, _, fun w hw => hw, hS4.weak (by intro f; simp only [ms_append, ms_cons, ms_nil]; omega), ?_⟩
  have hS4' : Sep E w4 (dChunk M d D.mn D.mq D.cs :: (C4 ++ ((g, .cells [Value.string x.gone, .string x.new, .pointer p].toArray 153 (0, 0)) :: (b, .cells (Value.agg #[.string x.gone, .string x.new, .pointer p]).cells 153 (0, 0)) :: (strM D.mn l' c' :: strM D.mq D.lk D.ck :: D.fs.map fChunk ++ (C ++ L))))) := hS4.weak (by intro f; simp only [ms_append, ms_cons, ms_nil]; omega)
  obtain ⟨w5, h5, hS5⟩ := hS4'.store (o := 2) (n := 1) (v := slV s') (t := 138) (by kernel_rfl) rfl (by simp) (by simp [Value.cells, Value.oneCell'])
  refine ⟨w5, h5, fun _ => True, trivial, ?_⟩
  refine ⟨{ D with ln := l', cn := c', cs := s', CC := C4 }, (g, .cells [Value.string x.gone, .string x.new, .pointer p].toArray 153 (0, 0)) :: (b, .cells (Value.agg #[.string x.gone, .string x.new, .pointer p]).cells 153 (0, 0)) :: C, rfl, ?_, ?_⟩
  · refine ⟨hD.files, hD.bytes, hbn, hD.kept, ?_, ?_⟩
    · show Own 153 3 s' ((M.changes ++ [x]).flatMap (chV D.bs)) C4
      rw [List.flatMap_append]
      have : [x].flatMap (chV D.bs) = [.string x.gone, .string x.new, .pointer p] := by simp [chV, hp]
      rw [this]
      exact ho4
    · intro c hc hn
      show c.file < D.bs.length
      rcases List.mem_append.1 hc with hc | hc
      · exact hD.chOk c hc hn
      · rw [List.mem_singleton] at hc
        subst hc
        exact hx hn
  · have : Sep E w5 (dChunk (M.chg x) d D.mn D.mq s' :: (C4 ++ ((g, .cells [Value.string x.gone, .string x.new, .pointer p].toArray 153 (0, 0)) :: (b, .cells (Value.agg #[.string x.gone, .string x.new, .pointer p]).cells 153 (0, 0)) :: (strM D.mn l' c' :: strM D.mq D.lk D.ck :: D.fs.map fChunk ++ (C ++ L))))) := hS5
    exact this.weak (by intro f; simp only [DS.chunks, ms_append, ms_cons, ms_nil]; omega)

end Go.Proofs.Ytonjaaljnjjjcaa

/- The program's disk: contracts of what can be done. Conditions: as each lemma says. -/
set_option linter.unusedVariables false
set_option linter.unusedSimpArgs false
namespace Go.Proofs.Ytonjaaljnjjjcaa
open Go Go.RowKit

theorem ready_left {M : MDisk} (h : M.left ≤ 9223372036854775807) : M.ready.2.left ≤ 9223372036854775807 := by
  unfold MDisk.ready
  split
  · exact h
  · split
    · split
      · exact h
      · show M.left - 1 ≤ _; omega
    · exact h

theorem bs_len {D : DS} {M : MDisk} {L : List Chunk} (h : DRep D M L) : D.bs.length = M.files.length := by
  rw [← h.files]
  simp [DS.bs]

theorem filePtr_push (bs : List Nat) (b i : Nat) (h : i < bs.length) : filePtr (bs ++ [b]) i = filePtr bs i := by
  simp [filePtr, List.getElem?_append_left h]

theorem NameRep.push {bs : List Nat} {nm : Names} {l : List (Ent ByteArray)} {c : Nat} (h : NameRep bs nm l c) (b : Nat) : NameRep (bs ++ [b]) nm l c :=
  ⟨h.wf, fun k => by
    rw [h.get k]
    cases hf : findN k nm with
    | none => rfl
    | some i => simp [filePtr_push bs b i (h.ids k i hf)], fun k i hi => by
    have := h.ids k i hi
    simp; omega, h.sorted⟩

/-- Create. -/
theorem k32 {E w : World} {L I : List Chunk} {M : MDisk} {D : DS} {d : Nat} (hl : M.left ≤ 9223372036854775807) (hc : M.changes.length ≤ 1099511627776) (hS : Sep E w (D.chunks M d ++ L)) (hD : DRep D M I) (n : ByteArray) :
    Calls Pr 32 #[.pointer (some ⟨d, 0, none⟩), .string n] w fun e w' => ∃ (D' : DS) (C : List Chunk), e = .returned (.int .i64 (M.create n).1) ∧ DRep D' (M.create n).2 I ∧ Sep E w' (D'.chunks (M.create n).2 d ++ (C ++ L)) := by
  refine call32 ?_
  unfold ir32
  refine (k91 (L := _) hl hS).mono ?_
  rintro _ w1 ⟨rfl, hS1⟩
  have hS1 : Sep E w1 (D.chunks M.ready.2 d ++ L) := hS1
  have hD1 := hD.ready
  refine ⟨M.ready.1, rfl, brc_intro (fun h => ?_) (fun h => ?_)⟩
  · have h : M.ready.1 ≠ 0 := by simpa using h
    have hf : M.create n = M.ready := by simp [MDisk.create, h]
    rw [hf]
    exact ⟨D, [], rfl, hD1, hS1⟩
  have h : M.ready.1 = 0 := by simpa using h
  refine (k92 w1 n).mono ?_
  rintro _ _ ⟨rfl, rfl⟩
  refine ⟨_, rfl, brc_intro (fun h2 => ?_) (fun h2 => ?_)⟩
  · have h2 : MDisk.right n = false := by simpa using h2
    have hf : M.create n = (1, M.ready.2) := by simp [MDisk.create, h, h2]
    rw [hf]
    exact ⟨D, [], rfl, hD1, hS1⟩
  have h2 : MDisk.right n = true := by simpa using h2
  refine ⟨some D.mn, hS1.load (o := 0) List.mem_cons_self rfl (by kernel_rfl), _, hD1.now.look hS1 (List.mem_cons_of_mem _ List.mem_cons_self) n, ?_⟩
  cases hf : findN n M.ready.2.now with
  | some i =>
    have hf' : M.create n = (4, M.ready.2) := by simp [MDisk.create, h, h2, hf]
    rw [hf']
    have hi := hD1.now.ids n i hf
    refine brc_true ?_ ⟨D, [], rfl, hD1, hS1⟩
    simp [filePtr_some hi]
  | none =>
    have hf' : M.create n = (0, ({ M.ready.2 with files := M.ready.2.files ++ [MFile.mk [] 0] } : MDisk).chg ⟨noName, n, M.ready.2.files.length⟩) := by simp [MDisk.create, h, h2, hf]
    rw [hf']
    refine brc_false rfl ?_
    obtain ⟨b, w2, hb, hS2⟩ := hS1.newVar (t := 146) (v := .agg #[.slice none 0 0, .int .i64 0])
    refine ⟨_, w2, hb, ?_⟩
    have hn : n ≠ noName := by
      intro e
      subst e
      exact absurd h2 (by decide)
    have hbl := bs_len hD1
    let D1 : DS := { D with fs := D.fs ++ [⟨b, SV.nil, ⟨[], 0⟩⟩] }
    have hbs : D1.bs = D.bs ++ [b] := by simp [D1, DS.bs]
    have hD2 : DRep D1 { M.ready.2 with files := M.ready.2.files ++ [MFile.mk [] 0] } I := by
      refine ⟨?_, fun r hr => ?_, by rw [hbs]; exact hD1.now.push b, by rw [hbs]; exact hD1.kept.push b, ?_, ?_⟩
      · simp [D1, hD1.files]
      · rcases List.mem_append.1 hr with hr | hr
        · exact hD1.bytes r hr
        · rw [List.mem_singleton] at hr
          subst hr
          exact RdS.none I 1
      · have : M.ready.2.changes.flatMap (chV D1.bs) = M.ready.2.changes.flatMap (chV D.bs) := by
          unfold List.flatMap
          congr 1
          apply List.map_congr_left
          intro c hcm
          simp only [chV]
          split
          · rfl
          · rename_i hcn
            rw [hbs, filePtr_push _ _ _ (hD1.chOk c hcm hcn)]
        show Own 153 3 D.cs (M.ready.2.changes.flatMap (chV D1.bs)) D.CC
        rw [this]
        exact hD1.own
      · intro c hcm hcn
        have := hD1.chOk c hcm hcn
        rw [hbs]
        simp; omega
    have hx := hD2
    have hS2' : Sep E w2 (D1.chunks { M.ready.2 with files := M.ready.2.files ++ [MFile.mk [] 0] } d ++ L) := by
      refine hS2.weak ?_
      intro f
      simp only [D1, DS.chunks, ms_append, ms_cons, ms_nil, List.map_append, List.map_cons, List.map_nil]
      show _ ≤ f (b, Obj.cells #[Value.slice none 0 0, Value.int .i64 0] 146 (0, 0)) + _
      have e : fChunk ⟨b, SV.nil, ⟨[], 0⟩⟩ = (b, Obj.cells #[Value.slice none 0 0, Value.int .i64 0] 146 (0, 0)) := rfl
      rw [e]
      have e2 : dChunk { M.ready.2 with files := M.ready.2.files ++ [MFile.mk [] 0] } d D.mn D.mq D.cs = dChunk M.ready.2 d D.mn D.mq D.cs := rfl
      rw [e2]
      omega
    have hst := ready_same M
    have hk := k93 (x := ⟨noName, n, M.ready.2.files.length⟩) hS2' hD2 (fun _ => by rw [hbs]; simp; omega) (by rw [hst.2.2.2.1]; exact hc)
    have hp : (if n = noName then none else filePtr D1.bs M.ready.2.files.length) = some ⟨b, 0, none⟩ := by
      rw [if_neg hn, hbs]
      simp [filePtr, ← hbl]
    simp only [hp] at hk
    refine hk.mono ?_
    rintro _ w3 ⟨D', C, rfl, hD3, hS3⟩
    exact ⟨rfl, D', C, rfl, hD3, hS3⟩

/-- Remove. -/
theorem k86 {E w : World} {L I : List Chunk} {M : MDisk} {D : DS} {d : Nat} (hl : M.left ≤ 9223372036854775807) (hc : M.changes.length ≤ 1099511627776) (hS : Sep E w (D.chunks M d ++ L)) (hD : DRep D M I) (n : ByteArray) :
    Calls Pr 86 #[.pointer (some ⟨d, 0, none⟩), .string n] w fun e w' => ∃ (D' : DS) (C : List Chunk), e = .returned (.int .i64 (M.remove n).1) ∧ DRep D' (M.remove n).2 I ∧ Sep E w' (D'.chunks (M.remove n).2 d ++ (C ++ L)) := by
  refine call86 ?_
  unfold ir86
  refine (k87 hl hS hD n).mono ?_
  rintro _ w1 ⟨rfl, hS1⟩
  have hD1 := hD.ready
  have hst := ready_same M
  refine ⟨_, _, rfl, ?_⟩
  unfold MDisk.remove
  rcases find_cases M n with ⟨e, he, hf⟩ | ⟨i, hf, hi⟩
  · rw [hf]
    exact brc_true (by simpa using he) ⟨D, [], rfl, hD1, hS1⟩
  · rw [hf]
    refine brc_false rfl ?_
    have hk := k93 (x := ⟨n, noName, 0⟩) hS1 hD1 (fun h => absurd rfl h) (by rw [hst.2.2.2.1]; exact hc)
    refine Calls.mono (R := _) hk ?_
    rintro _ w3 ⟨D', C, rfl, hD3, hS3⟩
    exact ⟨rfl, D', C, rfl, hD3, hS3⟩

/-- Rename. -/
theorem k85 {E w : World} {L I : List Chunk} {M : MDisk} {D : DS} {d : Nat} (hl : M.left ≤ 9223372036854775807) (hc : M.changes.length ≤ 1099511627776) (hS : Sep E w (D.chunks M d ++ L)) (hD : DRep D M I) (n m : ByteArray) :
    Calls Pr 85 #[.pointer (some ⟨d, 0, none⟩), .string n, .string m] w fun e w' => ∃ (D' : DS) (C : List Chunk), e = .returned (.int .i64 (M.rename n m).1) ∧ DRep D' (M.rename n m).2 I ∧ Sep E w' (D'.chunks (M.rename n m).2 d ++ (C ++ L)) := by
  refine call85 ?_
  unfold ir85
  refine (k87 hl hS hD n).mono ?_
  rintro _ w1 ⟨rfl, hS1⟩
  have hD1 := hD.ready
  have hst := ready_same M
  refine ⟨_, _, rfl, ?_⟩
  unfold MDisk.rename
  rcases find_cases M n with ⟨e, he, hf⟩ | ⟨i, hf, hi⟩
  · rw [hf]
    exact brc_true (by simpa using he) ⟨D, [], rfl, hD1, hS1⟩
  · rw [hf]
    refine brc_false rfl ?_
    refine (k92 w1 m).mono ?_
    rintro _ _ ⟨rfl, rfl⟩
    have hil := hD1.now.ids n i hi
    refine ⟨_, rfl, brc_intro (fun h2 => ?_) (fun h2 => ?_)⟩
    · have h2 : MDisk.right m = false := by simpa using h2
      simp only [h2, if_true]
      exact ⟨D, [], by trivial, hD1, hS1⟩
    · have h2 : MDisk.right m = true := by simpa using h2
      have hm : m ≠ noName := by
        intro e
        subst e
        exact absurd h2 (by decide)
      simp only [h2, Bool.true_eq_false, if_false]
      have hk := k93 (x := ⟨n, m, i⟩) hS1 hD1 (fun _ => hil) (by rw [hst.2.2.2.1]; exact hc)
      simp only [if_neg hm] at hk
      refine Calls.mono (R := _) hk ?_
      rintro _ w3 ⟨D', C, rfl, hD3, hS3⟩
      exact ⟨rfl, D', C, by trivial, hD3, hS3⟩

theorem split_at {α : Type} {l : List α} {i : Nat} (h : i < l.length) : ∃ A x B, l = A ++ x :: B ∧ A.length = i ∧ l[i]? = some x :=
  ⟨l.take i, l[i], l.drop (i + 1), by rw [← List.drop_eq_getElem_cons h, List.take_append_drop], by simp; omega, by simp [h]⟩
theorem modify_mid {α : Type} (A B : List α) (x : α) (g : α → α) : (A ++ x :: B).modify A.length g = A ++ g x :: B := by
  induction A with
  | nil => rfl
  | cons a A ih => simp [ih]

/-- A file's record, and what else there is. -/
theorem DRep.file {D : DS} {M : MDisk} {I : List Chunk} (hD : DRep D M I) {i : Nat} (hi : i < D.bs.length) : ∃ A r B, D.fs = A ++ r :: B ∧ A.length = i ∧ filePtr D.bs i = some ⟨r.b, 0, none⟩ ∧ M.fileAt i = r.f ∧ r ∈ D.fs := by
  have hi' : i < D.fs.length := by simpa [DS.bs] using hi
  obtain ⟨A, r, B, h1, h2, h3⟩ := split_at hi'
  refine ⟨A, r, B, h1, h2, ?_, ?_, by rw [h1]; simp⟩
  · simp [filePtr, DS.bs, h3]
  · unfold MDisk.fileAt
    rw [← hD.files]
    simp [h3]

/-- A file's bytes, or how many are kept, turn. -/
theorem DRep.turn {D : DS} {M : MDisk} {L : List Chunk} (hD : DRep D M L) {A B : List FRec} {r : FRec} (hfs : D.fs = A ++ r :: B) {s : SV} (g : MFile → MFile) (hr : RdB L s (g r.f).bytes) :
    DRep { D with fs := A ++ ⟨r.b, s, g r.f⟩ :: B } (M.setFile A.length g) L := by
  have hbs : DS.bs { D with fs := A ++ ⟨r.b, s, g r.f⟩ :: B } = D.bs := by simp [DS.bs, hfs]
  refine ⟨?_, fun x hx => ?_, by rw [hbs]; exact hD.now, by rw [hbs]; exact hD.kept, by rw [hbs]; exact hD.own, by rw [hbs]; exact hD.chOk⟩
  · have := hD.files
    rw [hfs] at this
    show (A ++ ⟨r.b, s, g r.f⟩ :: B).map (·.f) = M.files.modify A.length g
    rw [← this, List.map_append, List.map_append, List.map_cons, List.map_cons]
    have hl : A.length = (A.map (·.f)).length := by simp
    rw [hl, modify_mid]
  · simp only [List.mem_append, List.mem_cons] at hx
    rcases hx with hx | rfl | hx
    · exact hD.bytes x (by rw [hfs]; simp [hx])
    · exact hr
    · exact hD.bytes x (by rw [hfs]; simp [hx])

theorem dChunk_set (M : MDisk) (i : Nat) (g : MFile → MFile) (d mn mk : Nat) (cs : SV) : dChunk (M.setFile i g) d mn mk cs = dChunk M d mn mk cs := rfl

/-- Sync. -/
theorem k57 {E w : World} {L I : List Chunk} {M : MDisk} {D : DS} {d : Nat} (hl : M.left ≤ 9223372036854775807) (hS : Sep E w (D.chunks M d ++ L)) (hD : DRep D M I) (n : ByteArray) :
    Calls Pr 57 #[.pointer (some ⟨d, 0, none⟩), .string n] w fun e w' => ∃ (D' : DS), e = .returned (.int .i64 (M.sync n).1) ∧ DRep D' (M.sync n).2 I ∧ Sep E w' (D'.chunks (M.sync n).2 d ++ L) := by
  refine call57 ?_
  unfold ir57
  refine (k87 hl hS hD n).mono ?_
  rintro _ w1 ⟨rfl, hS1⟩
  have hD1 := hD.ready
  refine ⟨_, _, rfl, ?_⟩
  unfold MDisk.sync
  rcases find_cases M n with ⟨e, he, hf⟩ | ⟨i, hf, hi⟩
  · rw [hf]
    exact brc_true (by simpa using he) ⟨D, rfl, hD1, hS1⟩
  · rw [hf]
    refine brc_false rfl ?_
    obtain ⟨A, r, B, hfs, hA, hp, hfa, hr⟩ := hD1.file (hD1.now.ids n i hi)
    simp only [Option.bind_some, hp]
    have hS2 : Sep E w1 (fChunk r :: (dChunk M.ready.2 d D.mn D.mq D.cs :: strM D.mn D.ln D.cn :: strM D.mq D.lk D.ck :: (D.CC ++ (A.map fChunk ++ B.map fChunk)) ++ L)) := by
      refine hS1.weak ?_
      intro f
      simp only [DS.chunks, hfs, ms_append, ms_cons, ms_nil, List.map_append, List.map_cons, List.map_nil]
      omega
    have hsz := (hD1.bytes r hr).size
    refine ⟨r.s, hS2.load (o := 0) List.mem_cons_self rfl (by kernel_rfl), ?_⟩
    obtain ⟨w2, h2, hS3⟩ := hS2.store (o := 1) (n := 1) (v := .int .i64 ((r.s.len : Nat) : Int)) (t := 3) (by kernel_rfl) rfl (by simp) (by simp [Value.cells, Value.oneCell'])
    refine ⟨w2, h2, _, by trivial, hA ▸ hD1.turn hfs (s := r.s) (fun f => ⟨f.bytes, f.bytes.length⟩) (hD1.bytes r hr), ?_⟩
    rw [hsz] at hS3
    have hS3' : Sep E w2 (fChunk ⟨r.b, r.s, ⟨r.f.bytes, r.f.bytes.length⟩⟩ :: (dChunk M.ready.2 d D.mn D.mq D.cs :: strM D.mn D.ln D.cn :: strM D.mq D.lk D.ck :: (D.CC ++ (A.map fChunk ++ B.map fChunk)) ++ L)) := hS3
    refine hS3'.weak ?_
    intro f
    simp only [DS.chunks, dChunk_set, ms_append, ms_cons, ms_nil, List.map_append, List.map_cons, List.map_nil]
    omega

/-- Read. -/
theorem k28 {E w : World} {L I : List Chunk} {M : MDisk} {D : DS} {d : Nat} (hl : M.left ≤ 9223372036854775807) (hS : Sep E w (D.chunks M d ++ L)) (hD : DRep D M I) (hI : ∀ c ∈ I, c ∈ L) (n : ByteArray) (hb : ∀ f ∈ M.files, f.bytes.length ≤ 1099511627776) :
    Calls Pr 28 #[.pointer (some ⟨d, 0, none⟩), .string n] w fun e w' => ∃ (s : SV) (C : List Chunk), e = .returned (.tuple #[.slice s.a s.len s.cap, .int .i64 (M.read n).1]) ∧ RdB C s (M.read n).2.1 ∧ (M.read n).2.2 = M.ready.2 ∧ DRep D (M.read n).2.2 I ∧ Sep E w' (D.chunks (M.read n).2.2 d ++ (C ++ L)) := by
  refine call28 ?_
  unfold ir28
  refine (k87 hl hS hD n).mono ?_
  rintro _ w1 ⟨rfl, hS1⟩
  have hD1 := hD.ready
  have hst := ready_same M
  refine ⟨_, _, rfl, ?_⟩
  unfold MDisk.read
  rcases find_cases M n with ⟨e, he, hf⟩ | ⟨i, hf, hi⟩
  · rw [hf]
    exact brc_true (by simpa using he) ⟨SV.nil, [], rfl, RdS.none _ _, rfl, hD1, hS1⟩
  · rw [hf]
    refine brc_false rfl ?_
    obtain ⟨A, r, B, hfs, hA, hp, hfa, hr⟩ := hD1.file (hD1.now.ids n i hi)
    simp only [Option.bind_some, hp, hfa]
    have hm : fChunk r ∈ D.chunks M.ready.2 d ++ L := by simp [DS.chunks, hfs]
    refine ⟨r.s, hS1.load (o := 0) hm rfl (by kernel_rfl), ?_⟩
    have hbr : r.f.bytes.length ≤ 1099511627776 := by
      refine hb r.f ?_
      rw [← hst.1, ← hD1.files]
      exact List.mem_map.2 ⟨r, hr, rfl⟩
    refine (k88 hS1 (((hD1.bytes r hr).mono hI).right _) hbr).mono ?_
    rintro _ w2 ⟨s2, C, rfl, ho, hS2⟩
    exact ⟨s2, rfl, s2, C, by trivial, ho.rds, by trivial, hD1, hS2.weak (by intro f; simp only [ms_append, ms_cons, ms_nil]; omega)⟩

end Go.Proofs.Ytonjaaljnjjjcaa

/- The program's disk: a new one, names kept, how many bytes there are, bytes put behind a file's. Conditions: as each lemma says. -/
set_option linter.unusedVariables false
set_option linter.unusedSimpArgs false
namespace Go.Proofs.Ytonjaaljnjjjcaa
open Go Go.RowKit

/-- maps.Clone. -/
theorem k108 {E w : World} {L : List Chunk} {m c : Nat} {l : List (Ent ByteArray)} (hS : Sep E w L) (hm : strM m l c ∈ L) :
    Calls Pr 108 #[.map (some m)] w fun e w' => ∃ m', e = .returned (.map (some m')) ∧ Sep E w' (strM m' l c :: L) := by
  refine call108 ?_
  unfold ir108
  refine ⟨false, ?_, brc_false rfl ⟨.iface 137 (.map (some m)), ?_, ?_⟩⟩
  · unfold At
    have h : ∀ d, (Op.equalIn (d + 1) 137 (.map (some m)) (.map none)).run Pr w = .ok false w := fun d => by
      simp [Op.equalIn, run_underlying u137]
    have h' : (Op.equal 137 (.map (some m)) (.map none)).run Pr w = .ok false w := h 9999
    simp [eqGuard, binOp, h']
  · unfold At
    simp [Instr.makeInterface, run_underlying u137]
  · have hb : w.heap[m]? = some (.map (l.map (Ent.me Value.string)).toArray c) := hS.at_ _ hm
    unfold Does
    rw [run_callFunc_extern (P := Pr) (f := 145) (fn := Try.f145) (e := Extern.MapsClone.clone) Try.func145 (by kernel_rfl) (by kernel_rfl) (by kernel_rfl) (by kernel_rfl)]
    have hrun : (Extern.MapsClone.clone #[.iface 137 (.map (some m))]).run Pr w = .ok (.iface 137 (.map (some w.heap.size))) { w with heap := w.heap.push (.map (l.map (Ent.me Value.string)).toArray c) } := by
      have hc : Extern.MapsClone.clone #[.iface 137 (.map (some m))] = (do
          let .map entries clock ← getObj m | stuck "maps.clone: a map expected"
          pure (.iface 137 (.map (some (← newObj (.map entries clock)))))) := rfl
      rw [hc]
      simp only [Sem.run_bind, run_getObj_map hb, Result.andThen_ok, run_newObj, Sem.run_pure]
    rw [hrun]
    refine ⟨some w.heap.size, ?_, w.heap.size, rfl, hS.push _⟩
    unfold At
    simp [Instr.typeAssert, run_underlying u137]

theorem k25 {E w : World} {L : List Chunk} (hS : Sep E w L) (room : Int) :
    Calls Pr 25 #[.int .i64 room] w fun e w' => ∃ (d : Nat) (D : DS), e = .returned (.pointer (some ⟨d, 0, none⟩)) ∧ DRep D (MDisk.new room) [] ∧ Sep E w' (D.chunks (MDisk.new room) d ++ L) := by
  refine call25 ?_
  unfold ir25
  obtain ⟨m1, w1, h1, hS1⟩ := hS.makeMap (kv := Value.string) 137
  obtain ⟨m2, w2, h2, hS2⟩ := hS1.makeMap (kv := Value.string) 137
  refine ⟨m1, w1, h1, m2, w2, h2, ?_⟩
  have hr : (if 0 > room then 0 else room) = ((room.toNat : Nat) : Int) := by split <;> omega
  rw [hr]
  obtain ⟨d, w3, h3, hS3⟩ := hS2.newVar (t := 140) (v := .agg #[.map (some m1), .map (some m2), .slice none 0 0, .int .i64 ((room.toNat : Nat) : Int), .bool false, .bool false, .int .i64 0])
  refine ⟨_, w3, h3, d, ⟨[], m1, m2, [], [], 0, 0, SV.nil, []⟩, rfl, ?_, ?_⟩
  · have hn : NameRep [] [] [] 0 := ⟨MapWf.nil _, fun k => rfl, fun k i h => by simp [findN] at h, List.Pairwise.nil⟩
    exact ⟨rfl, by simp, hn, hn, Own.nil _ _, by simp [MDisk.new]⟩
  · have hS3' : Sep E w3 (dChunk (MDisk.new room) d m1 m2 SV.nil :: strM m2 [] 0 :: strM m1 [] 0 :: L) := hS3
    exact hS3'.weak (by intro f; simp only [DS.chunks, ms_append, ms_cons, ms_nil, List.map_nil]; omega)

/-- SyncNames. -/
theorem k55 {E w : World} {L I : List Chunk} {M : MDisk} {D : DS} {d : Nat} (hl : M.left ≤ 9223372036854775807) (hS : Sep E w (D.chunks M d ++ L)) (hD : DRep D M I) :
    Calls Pr 55 #[.pointer (some ⟨d, 0, none⟩)] w fun e w' => ∃ (D' : DS) (C : List Chunk), e = .returned (.int .i64 M.syncNames.1) ∧ DRep D' M.syncNames.2 I ∧ Sep E w' (D'.chunks M.syncNames.2 d ++ (C ++ L)) := by
  refine call55 ?_
  unfold ir55
  refine (k91 (L := _) hl hS).mono ?_
  rintro _ w1 ⟨rfl, hS1⟩
  have hS1 : Sep E w1 (D.chunks M.ready.2 d ++ L) := hS1
  have hD1 := hD.ready
  refine ⟨M.ready.1, rfl, brc_intro (fun h => ?_) (fun h => ?_)⟩
  · have h : M.ready.1 ≠ 0 := by simpa using h
    have hf : M.syncNames = M.ready := by simp [MDisk.syncNames, h]
    rw [hf]
    exact ⟨D, [], rfl, hD1, hS1⟩
  have h : M.ready.1 = 0 := by simpa using h
  have hf : M.syncNames = (0, { M.ready.2 with kept := M.ready.2.now, changes := [] }) := by simp [MDisk.syncNames, h]
  rw [hf]
  refine ⟨some D.mn, hS1.load (o := 0) List.mem_cons_self rfl (by kernel_rfl), (k108 hS1 (List.mem_cons_of_mem _ List.mem_cons_self)).mono ?_⟩
  rintro _ w2 ⟨m', rfl, hS2⟩
  refine ⟨some m', rfl, ?_⟩
  have hS2' : Sep E w2 (dChunk M.ready.2 d D.mn D.mq D.cs :: (strM m' D.ln D.cn :: (strM D.mn D.ln D.cn :: strM D.mq D.lk D.ck :: (D.CC ++ D.fs.map fChunk) ++ L))) := hS2.weak (by intro f; simp only [DS.chunks, ms_append, ms_cons, ms_nil]; omega)
  obtain ⟨w3, h3, hS3⟩ := hS2'.store (o := 1) (n := 1) (v := .map (some m')) (t := 137) (by kernel_rfl) rfl (by simp) (by simp [Value.cells, Value.oneCell'])
  refine ⟨w3, h3, ?_⟩
  have hS3' : Sep E w3 (dChunk M.ready.2 d D.mn m' D.cs :: (strM m' D.ln D.cn :: (strM D.mn D.ln D.cn :: strM D.mq D.lk D.ck :: (D.CC ++ D.fs.map fChunk) ++ L))) := hS3
  obtain ⟨w4, h4, hS4⟩ := hS3'.store (o := 2) (n := 1) (v := .slice none 0 0) (t := 138) (by kernel_rfl) rfl (by simp) (by simp [Value.cells, Value.oneCell'])
  refine ⟨w4, h4, { D with mq := m', lk := D.ln, ck := D.cn, cs := SV.nil, CC := [] }, [], rfl, ?_, ?_⟩
  · exact ⟨hD1.files, hD1.bytes, hD1.now, hD1.now, Own.nil _ _, by simp⟩
  · have hS4' : Sep E w4 (dChunk { M.ready.2 with kept := M.ready.2.now, changes := [] } d D.mn m' SV.nil :: (strM m' D.ln D.cn :: (strM D.mn D.ln D.cn :: strM D.mq D.lk D.ck :: (D.CC ++ D.fs.map fChunk) ++ L))) := hS4
    exact hS4'.weak (by intro f; simp only [DS.chunks, ms_append, ms_cons, ms_nil]; omega)

end Go.Proofs.Ytonjaaljnjjjcaa

/- The program's disk: how many bytes there are. Conditions: as each lemma says. -/
set_option linter.unusedVariables false
set_option linter.unusedSimpArgs false
namespace Go.Proofs.Ytonjaaljnjjjcaa
open Go Go.RowKit

/-! ### Entries that a range has seen -/
section
variable {K : Type}

theorem ms_seen (g : Ent K → Nat) (seen : List Nat) : ∀ (l : List (Ent K)) (e : Ent K), e ∈ l → (l.map (·.born)).Nodup → e.born ∉ seen →
    ms (fun x => if x.born ∈ seen ++ [e.born] then g x else 0) l = ms (fun x => if x.born ∈ seen then g x else 0) l + g e
  | [], _, h, _, _ => by cases h
  | x :: l, e, h, hn, hs => by
    rw [List.map_cons, List.nodup_cons] at hn
    have hrest : e ∉ l ∨ True := .inr trivial
    rcases List.mem_cons.1 h with rfl | h'
    · have hl : ms (fun x => if x.born ∈ seen ++ [e.born] then g x else 0) l = ms (fun x => if x.born ∈ seen then g x else 0) l := by
        have : ∀ l' : List (Ent K), (∀ y ∈ l', y.born ≠ e.born) → ms (fun x => if x.born ∈ seen ++ [e.born] then g x else 0) l' = ms (fun x => if x.born ∈ seen then g x else 0) l' := by
          intro l'
          induction l' with
          | nil => intro _; rfl
          | cons y l' ih =>
            intro hy
            have h1 := hy y List.mem_cons_self
            rw [ms_cons, ms_cons, ih fun z hz => hy z (List.mem_cons_of_mem _ hz)]
            simp [h1]
        exact this l fun y hy e' => hn.1 (e' ▸ List.mem_map.2 ⟨y, hy, rfl⟩)
      rw [ms_cons, ms_cons, hl]
      simp [hs]
      omega
    · have hne : x.born ≠ e.born := fun e' => hn.1 (e' ▸ List.mem_map.2 ⟨e, h', rfl⟩)
      rw [ms_cons, ms_cons, ms_seen g seen l e h' hn.2 hs]
      simp [hne]
      omega

def cnt (seen : List Nat) (l : List (Ent K)) : Nat := ms (fun x => if x.born ∈ seen then 1 else 0) l
theorem ms_le_len (f : Ent K → Nat) (h : ∀ x, f x ≤ 1) : ∀ l : List (Ent K), ms f l ≤ l.length
  | [] => Nat.le_refl _
  | x :: l => by
    have h1 := h x
    have h2 := ms_le_len f h l
    rw [ms_cons, List.length_cons]
    omega
theorem cnt_le (seen : List Nat) (l : List (Ent K)) : cnt seen l ≤ l.length := ms_le_len _ (fun x => by split <;> omega) l
theorem cnt_step {seen : List Nat} {l : List (Ent K)} {e : Ent K} (h : e ∈ l) (hn : (l.map (·.born)).Nodup) (hs : e.born ∉ seen) : l.length - cnt (seen ++ [e.born]) l < l.length - cnt seen l := by
  have h1 := ms_seen (fun _ => 1) seen l e h hn hs
  have h2 := cnt_le (seen ++ [e.born]) l
  unfold cnt at h2 ⊢
  omega
end

section
variable {K : Type} [DecidableEq K]

theorem getE_mem {l : List (Ent K)} (hn : (l.map (·.k)).Nodup) {e : Ent K} (h : e ∈ l) : getE e.k l = some e.v := by
  induction l with
  | nil => cases h
  | cons x l ih =>
    rw [List.map_cons, List.nodup_cons] at hn
    unfold getE
    rcases List.mem_cons.1 h with rfl | h'
    · simp
    · have hne : ¬ x.k = e.k := fun e' => hn.1 (e' ▸ List.mem_map.2 ⟨e, h', rfl⟩)
      rw [if_neg hne]
      exact ih hn.2 h'

theorem mem_of_getE {l : List (Ent K)} {k : K} {v : Value} (h : getE k l = some v) : ∃ e ∈ l, e.k = k ∧ e.v = v := by
  induction l with
  | nil => simp [getE] at h
  | cons x l ih =>
    unfold getE at h
    split at h
    · rename_i hx
      simp only [Option.some.injEq] at h
      exact ⟨x, List.mem_cons_self, hx, h⟩
    · obtain ⟨e, he, h1⟩ := ih h
      exact ⟨e, List.mem_cons_of_mem _ he, h1⟩

theorem getE_isSome {l : List (Ent K)} {k : K} : (getE k l).isSome ↔ k ∈ l.map (·.k) := by
  constructor
  · intro h
    obtain ⟨v, hv⟩ := Option.isSome_iff_exists.1 h
    obtain ⟨e, he, h1, _⟩ := mem_of_getE hv
    exact List.mem_map.2 ⟨e, he, h1⟩
  · intro h
    cases hg : getE k l with
    | some v => rfl
    | none =>
      obtain ⟨e, he, rfl⟩ := List.mem_map.1 h
      exact absurd rfl (getE_none.1 hg e he)
end

theorem NameRep.ent {bs : List Nat} {nm : Names} {l : List (Ent ByteArray)} {c : Nat} (h : NameRep bs nm l c) {e : Ent ByteArray} (he : e ∈ l) : ∃ i, findN e.k nm = some i ∧ i < bs.length ∧ e.v = .pointer (filePtr bs i) := by
  have h1 := getE_mem h.wf.keys he
  rw [h.get] at h1
  cases hf : findN e.k nm with
  | none => rw [hf] at h1; cases h1
  | some i =>
    rw [hf] at h1
    simp only [Option.map_some, Option.some.injEq] at h1
    exact ⟨i, rfl, h.ids _ _ hf, h1.symm⟩

/-- An element of a slice of structs. -/
theorem RdS.idxS {I : List Chunk} {sz : Nat} {s : SV} {xs : List Value} (h : RdS I sz s xs) {i : Nat} (hi : i < s.len) (hsz : 0 < sz) {E w : World} {L : List Chunk} (hS : Sep E w L) (hI : ∀ c ∈ I, c ∈ L) {t : TypeId} (ht : structT Pr t = true) (hn : sizeOf? Pr t = some sz) :
    ∃ a, s.a = some a ∧ At Pr w (loadVar t (a.add (i * sz))) (.agg ((xs.drop (i * sz)).take sz).toArray) := by
  cases ha : s.a with
  | none => have h0 := h.nil ha; omega
  | some a =>
    refine ⟨a, rfl, ?_⟩
    obtain ⟨b, o, sp⟩ := a
    rcases h.at_ _ ha with h0 | ⟨h1, cs, T, fr, hc, hv⟩
    · omega
    · simp only at h1
      subst h1
      rw [addr_add]
      have hlen := h.len
      have hbound : (i + 1) * sz ≤ s.len * sz := Nat.mul_le_mul_right _ (by omega)
      rw [Nat.succ_mul] at hbound
      have hcs : o + xs.length ≤ cs.size := by
        refine Classical.byContradiction fun hn => ?_
        have hx : xs.length - 1 < xs.length := by omega
        have := hv (xs.length - 1) xs[xs.length - 1] (by simp [hx])
        have h3 := (Array.getElem?_eq_some_iff.1 this).1
        simp only at h3
        omega
      refine hS.loadS (hI _ hc) ht hn ?_ (by omega)
      apply List.ext_getElem?
      intro j
      rw [List.getElem?_take, List.getElem?_take]
      split
      · rename_i hj
        rw [List.getElem?_drop, List.getElem?_drop]
        have hx : i * sz + j < xs.length := by omega
        have := hv (i * sz + j) xs[i * sz + j] (by simp [hx])
        simp only at this
        rw [← Nat.add_assoc] at this
        simpa [hx] using this
      · rfl

theorem chV_at (bs : List Nat) : ∀ (l : List MChange) (i : Nat) (c : MChange), l[i]? = some c → ((l.flatMap (chV bs)).drop (i * 3)).take 3 = chV bs c
  | [], _, _, h => by simp at h
  | x :: l, 0, c, h => by
    simp at h
    subst h
    simp [chV]
  | x :: l, i + 1, c, h => by
    have h' : l[i]? = some c := by simpa using h
    have := chV_at bs l i c h'
    rw [← this]
    have e : (i + 1) * 3 = i * 3 + 3 := by omega
    rw [e]
    simp [chV]

/-! ### What is held -/
theorem bs_nodup : ∀ {fs : List FRec}, (∀ b, ms (at1 b) (fs.map fChunk) ≤ 1) → (fs.map (·.b)).Nodup
  | [], _ => List.nodup_nil
  | r :: fs, h => by
    rw [List.map_cons, List.nodup_cons]
    refine ⟨fun hm => ?_, bs_nodup fun b => ?_⟩
    · obtain ⟨r', hr', he⟩ := List.mem_map.1 hm
      have h1 := h r.b
      have h2 := ms_pos (f := at1 r.b) (List.mem_map.2 ⟨r', hr', rfl⟩ : fChunk r' ∈ fs.map fChunk)
      rw [List.map_cons, ms_cons] at h1
      have e1 : at1 r.b (fChunk r) = 1 := by simp [at1, fChunk]
      have e2 : at1 r.b (fChunk r') = 1 := by simp [at1, fChunk, he]
      omega
    · have := h b
      rw [List.map_cons, ms_cons] at this
      omega

theorem DS.nodup {E w : World} {L : List Chunk} {M : MDisk} {D : DS} {d : Nat} (hS : Sep E w (D.chunks M d ++ L)) : D.bs.Nodup := by
  refine bs_nodup fun b => ?_
  have := hS.uniq b
  simp only [DS.chunks, ms_append, ms_cons, ms_nil] at this
  omega

theorem filePtr_inj {bs : List Nat} (hn : bs.Nodup) {i j : Nat} (hi : i < bs.length) (h : filePtr bs i = filePtr bs j) : i = j := by
  rw [filePtr_some hi] at h
  unfold filePtr at h
  cases hj : bs[j]? with
  | none => rw [hj] at h; cases h
  | some b =>
    rw [hj] at h
    simp only [Option.map_some, Option.some.injEq, Addr.mk.injEq, and_true] at h
    subst h
    obtain ⟨hj1, hj2⟩ := List.getElem?_eq_some_iff.1 hj
    rcases Nat.lt_trichotomy i j with hlt | h | hgt
    · exact absurd hj2.symm (List.pairwise_iff_getElem.1 hn i j hi hj1 hlt)
    · exact h
    · exact absurd hj2 (List.pairwise_iff_getElem.1 hn j i hj1 hi hgt)

/-- The bytes of a block's file. -/
def lenAt : List FRec → Nat → Nat
  | [], _ => 0
  | r :: fs, b => if r.b = b then r.f.bytes.length else lenAt fs b

theorem lenAt_of {fs : List FRec} {r : FRec} (hn : (fs.map (·.b)).Nodup) (h : r ∈ fs) : lenAt fs r.b = r.f.bytes.length := by
  induction fs with
  | nil => cases h
  | cons x fs ih =>
    rw [List.map_cons, List.nodup_cons] at hn
    unfold lenAt
    rcases List.mem_cons.1 h with rfl | h'
    · simp
    · have : ¬ x.b = r.b := fun e => hn.1 (e ▸ List.mem_map.2 ⟨r, h', rfl⟩)
      rw [if_neg this]
      exact ih hn.2 h'

/-- A sum over blocks, each once, is the sum over the files that are among them. -/
theorem sum_held (fs : List FRec) (hn : (fs.map (·.b)).Nodup) (ks : List Nat) (hk : ks.Nodup) (hs : ∀ b ∈ ks, b ∈ fs.map (·.b)) : ms (lenAt fs) ks = ms (fun r => if r.b ∈ ks then r.f.bytes.length else 0) fs := by
  have hp : ks.Perm ((fs.map (·.b)).filter fun b => decide (b ∈ ks)) := by
    rw [List.perm_ext_iff_of_nodup hk (hn.filter _)]
    intro b
    rw [List.mem_filter]
    constructor
    · intro h
      exact ⟨hs b h, by simpa using h⟩
    · rintro ⟨_, h⟩
      simpa using h
  rw [ms_perm _ hp]
  have key : ∀ gs : List FRec, (∀ r ∈ gs, r ∈ fs) → ms (lenAt fs) ((gs.map (·.b)).filter fun b => decide (b ∈ ks)) = ms (fun r => if r.b ∈ ks then r.f.bytes.length else 0) gs := by
    intro gs
    induction gs with
    | nil => intro _; rfl
    | cons r gs ih =>
      intro h
      have hr := h r List.mem_cons_self
      have hrest := ih fun x hx => h x (List.mem_cons_of_mem _ hx)
      rw [List.map_cons, List.filter_cons, ms_cons, ← hrest]
      by_cases hb : r.b ∈ ks
      · simp only [hb, decide_true, if_true, ms_cons, lenAt_of hn hr]
      · simp [hb]
  exact key fs fun r hr => hr

theorem usedTo_ms (M : MDisk) : ∀ (fs : List FRec) (i : Nat) (p : FRec → Prop) [DecidablePred p], (∀ (j : Nat) (r : FRec), fs[j]? = some r → (p r ↔ M.holds (i + j) = true)) → M.usedTo i (fs.map (·.f)) = ms (fun r => if p r then r.f.bytes.length else 0) fs
  | [], _, _, _, _ => rfl
  | r :: fs, i, p, _, h => by
    have h0 : p r ↔ M.holds i = true := h 0 r rfl
    have hr := usedTo_ms M fs (i + 1) p fun j r' hr' => by
      have := h (j + 1) r' (by simpa using hr')
      rw [show i + 1 + j = i + (j + 1) by omega]
      exact this
    rw [List.map_cons, MDisk.usedTo, hr, ms_cons]
    by_cases hp : p r
    · rw [if_pos hp, if_pos (h0.1 hp)]
    · rw [if_neg hp, if_neg fun e => hp (h0.2 e)]

theorem holds_iff (M : MDisk) (i : Nat) : M.holds i = true ↔ (∃ x ∈ M.kept, x.2 = i) ∨ ∃ c ∈ M.changes, c.new ≠ noName ∧ c.file = i := by
  simp [MDisk.holds, List.any_eq_true]

end Go.Proofs.Ytonjaaljnjjjcaa

set_option linter.unusedVariables false
set_option linter.unusedSimpArgs false
namespace Go.Proofs.Ytonjaaljnjjjcaa
open Go Go.RowKit

theorem u160 : Pr.underlying 160 = some (.map 141 4) := by kernel_rfl
theorem u141 : Pr.underlying 141 = some (.pointer 146) := by kernel_rfl
theorem s146 : sizeOf? Pr 146 = some (1 + 1) := by kernel_rfl
theorem z153 : (Pr.info? 153).bind (·.zero) = some (.agg #[.string ByteArray.empty, .string ByteArray.empty, .pointer none]) := by kernel_rfl

theorem setE_mem {K : Type} [DecidableEq K] (k : K) (v : Value) (c : Nat) (l : List (Ent K)) (j : K) : j ∈ (setE k v c l).map (·.k) ↔ j ∈ l.map (·.k) ∨ j = k := by
  rw [setE_keys]
  split
  · rename_i h
    rw [getE_isSome] at h
    constructor
    · exact .inl
    · rintro (h' | rfl)
      · exact h'
      · exact h
  · simp

theorem setE_vals {K : Type} [DecidableEq K] (k : K) (v : Value) (c : Nat) : ∀ (l : List (Ent K)), (∀ e ∈ l, e.v = v) → ∀ e ∈ setE k v c l, e.v = v
  | [], _, e, he => by
    simp [setE] at he
    rw [he]
  | x :: l, h, e, he => by
    unfold setE at he
    split at he
    · rcases List.mem_cons.1 he with rfl | he
      · rfl
      · exact h e (List.mem_cons_of_mem _ he)
    · rcases List.mem_cons.1 he with rfl | he
      · exact h _ List.mem_cons_self
      · exact setE_vals k v c l (fun y hy => h y (List.mem_cons_of_mem _ hy)) e he

theorem born_inj {K : Type} : ∀ {l : List (Ent K)}, (l.map (·.born)).Nodup → ∀ {e e' : Ent K}, e ∈ l → e' ∈ l → e.born = e'.born → e = e'
  | [], _, _, _, h, _, _ => by cases h
  | x :: l, hn, e, e', h, h', hb => by
    rw [List.map_cons, List.nodup_cons] at hn
    rcases List.mem_cons.1 h with h1 | h1
    · rcases List.mem_cons.1 h' with h2 | h2
      · rw [h1, h2]
      · exact absurd (List.mem_map.2 ⟨e', h2, by rw [← hb, h1]⟩) hn.1
    · rcases List.mem_cons.1 h' with h2 | h2
      · exact absurd (List.mem_map.2 ⟨e, h1, by rw [hb, h2]⟩) hn.1
      · exact born_inj hn.2 h1 h2 hb

theorem ms_mono {α : Type} {f g : α → Nat} (h : ∀ x, f x ≤ g x) : ∀ l : List α, ms f l ≤ ms g l
  | [] => Nat.le_refl _
  | x :: l => by
    have h1 := h x
    have h2 := ms_mono h l
    rw [ms_cons, ms_cons]
    omega
theorem ms_map {α β : Type} (f : β → Nat) (g : α → β) : ∀ l : List α, ms f (l.map g) = ms (fun x => f (g x)) l
  | [] => rfl
  | x :: l => by rw [List.map_cons, ms_cons, ms_cons, ms_map f g l]
theorem ms_congr {α : Type} {f g : α → Nat} : ∀ {l : List α}, (∀ x ∈ l, f x = g x) → ms f l = ms g l
  | [], _ => rfl
  | x :: l, h => by rw [ms_cons, ms_cons, h x List.mem_cons_self, ms_congr fun y hy => h y (List.mem_cons_of_mem _ hy)]


abbrev setM (m : Nat) (l : List (Ent Nat)) (c : Nat) : Chunk := mapC ptrV m l c

theorem DS.dmem (D : DS) (M : MDisk) (d : Nat) (L : List Chunk) : dChunk M d D.mn D.mq D.cs ∈ D.chunks M d ++ L := by simp [DS.chunks]

/-- Put into a set of files. -/
theorem Sep.put {E w : World} {L : List Chunk} {M : MDisk} {D : DS} {d m c : Nat} {l : List (Ent Nat)} {G : List Chunk} (hS : Sep E w (setM m l c :: (G ++ (D.chunks M d ++ L)))) (hw : MapWf l c) (hk : ∀ b ∈ l.map (·.k), b ∈ D.bs) (hv : ∀ e ∈ l, e.v = .bool true) {b : Nat} (hb : b ∈ D.bs) :
    ∃ w' l' c', Sem.run Pr (Instr.mapUpdate 160 (.map (some m)) (.pointer (some ⟨b, 0, none⟩)) (.bool true)) w = .ok () w' ∧ MapWf l' c' ∧ (∀ e ∈ l', e.v = .bool true) ∧ (∀ j, j ∈ l'.map (·.k) ↔ j ∈ l.map (·.k) ∨ j = b) ∧ Sep E w' (setM m l' c' :: (G ++ (D.chunks M d ++ L))) := by
  have hpl : ∀ b ∈ D.bs, Plain w b := fun b hb => by
    obtain ⟨r, hr, rfl⟩ := List.mem_map.1 hb
    have : fChunk r ∈ setM m l c :: (G ++ (D.chunks M d ++ L)) := by
      simp only [DS.chunks, List.mem_cons, List.mem_append, List.mem_map]
      exact .inr (.inr (.inl (.inr (.inr (.inr (.inr ⟨r, hr, rfl⟩))))))
    exact hS.plain this
  obtain ⟨w', h1, h2⟩ := hS.mapUpdate (mt := 160) u160 (.bool true) (keyOk_ptr u141 s146 (hpl b hb) fun x hx => hpl _ (hk _ (List.mem_map.2 ⟨x, hx, rfl⟩)))
  exact ⟨w', _, _, h1, hw.set b _, setE_vals _ _ _ _ hv, fun j => setE_mem _ _ _ _ _, h2⟩

/-- Used. -/
theorem k40 {E w : World} {L I : List Chunk} {M : MDisk} {D : DS} {d : Nat} (hS : Sep E w (D.chunks M d ++ L)) (hD : DRep D M I) (hT : M.total ≤ 1099511627776) (hc : M.changes.length ≤ 1099511627776) :
    Calls Pr 40 #[.pointer (some ⟨d, 0, none⟩)] w fun e w' => ∃ C : List Chunk, e = .returned (.int .i64 ((M.used : Nat) : Int)) ∧ Sep E w' (C ++ (D.chunks M d ++ L)) := by
  refine call40 ?_
  unfold ir40
  refine brc_false rfl ?_
  obtain ⟨m1, w1, h1, hS1⟩ := hS.makeMap (kv := ptrV) 160
  refine ⟨m1, w1, h1, some D.mq, hS1.load (o := 1) (List.mem_cons_of_mem _ (D.dmem M d L)) rfl (by kernel_rfl), ?_⟩
  have hmk : strM D.mq D.lk D.ck ∈ mapC ptrV m1 [] 0 :: (D.chunks M d ++ L) := by simp [DS.chunks]
  obtain ⟨it, w2, h2, hS2⟩ := hS1.range (mt := 137) hmk u137
  refine ⟨_, w2, h2, ?_⟩
  have hnod := DS.nodup hS
  -- the kept names
  refine ⟨fun n _ w3 => ∃ (seen : List Nat) (lu : List (Ent Nat)) (cu : Nat), n = D.lk.length - cnt seen D.lk ∧ MapWf lu cu ∧ (∀ e ∈ lu, e.v = .bool true) ∧ (∀ b, b ∈ lu.map (·.k) ↔ ∃ e ∈ D.lk, e.born ∈ seen ∧ e.v = .pointer (some ⟨b, 0, none⟩)) ∧ Sep E w3 (iterC it D.mq D.ck seen :: setM m1 lu cu :: (D.chunks M d ++ L)), _, ⟨[], [], 0, rfl, MapWf.nil _, by simp, by simp, hS2⟩, ?_⟩
  rintro n _ w3 ⟨seen, lu, cu, rfl, hwu, hvu, hku, hS3⟩ _
  have hkb : ∀ b ∈ lu.map (·.k), b ∈ D.bs := fun b hb => by
    obtain ⟨e, he, _, hv⟩ := (hku b).1 hb
    obtain ⟨i, hf, hi, hv'⟩ := hD.kept.ent he
    rw [hv, filePtr_some hi] at hv'
    simp only [Value.pointer.injEq, Option.some.injEq, Addr.mk.injEq, and_true] at hv'
    rw [hv']
    exact List.getElem_mem hi
  refine hS3.next (m := D.mq) (l := D.lk) (kv := Value.string) (by simp [DS.chunks]) hD.kept.wf.born (fun hall => ?_) (fun e he hes w4 hS4 => ?_)
  · -- the changes
    refine ⟨D.cs, hS3.load (o := 2) (List.mem_cons_of_mem _ (List.mem_cons_of_mem _ (D.dmem M d L))) rfl (by kernel_rfl), ?_⟩
    have hlen : D.cs.len = M.changes.length := by
      have := hD.own.len
      rw [chV_len] at this
      omega
    refine ⟨fun n σ w4 => ∃ (k : Nat) (lu : List (Ent Nat)) (cu : Nat) (G : List Chunk), k ≤ M.changes.length ∧ n = M.changes.length - k ∧ σ = ((k : Int), ()) ∧ MapWf lu cu ∧ (∀ e ∈ lu, e.v = .bool true) ∧ (∀ b, b ∈ lu.map (·.k) ↔ (∃ e ∈ D.lk, e.v = .pointer (some ⟨b, 0, none⟩)) ∨ ∃ c ∈ M.changes.take k, c.new ≠ noName ∧ filePtr D.bs c.file = some ⟨b, 0, none⟩) ∧ Sep E w4 (setM m1 lu cu :: (G ++ (D.chunks M d ++ L))), M.changes.length, ⟨0, lu, cu, [iterC it D.mq D.ck seen], Nat.zero_le _, rfl, rfl, hwu, hvu, fun b => ?_, hS3.weak (by intro f; simp only [ms_append, ms_cons, ms_nil]; omega)⟩, ?_⟩
    · rw [hku b]
      simp only [List.take_zero, List.not_mem_nil, false_and, exists_false, or_false]
      exact ⟨fun ⟨e, h1, _, h2⟩ => ⟨e, h1, h2⟩, fun ⟨e, h1, h2⟩ => ⟨e, h1, hall e h1, h2⟩⟩
    rintro n σ w4 ⟨k, lu, cu, G, hk, rfl, rfl, hwu, hvu, hku, hS4⟩ _
    dsimp only
    have hkb : ∀ b ∈ lu.map (·.k), b ∈ D.bs := fun b hb => by
      rcases (hku b).1 hb with ⟨e, he, hv⟩ | ⟨c, hcm, hcn, hv⟩
      · obtain ⟨i, hf, hi, hv'⟩ := hD.kept.ent he
        rw [hv, filePtr_some hi] at hv'
        simp only [Value.pointer.injEq, Option.some.injEq, Addr.mk.injEq, and_true] at hv'
        rw [hv']
        exact List.getElem_mem hi
      · have hi := hD.chOk c (List.mem_of_mem_take hcm) hcn
        rw [filePtr_some hi] at hv
        simp only [Option.some.injEq, Addr.mk.injEq, and_true] at hv
        rw [← hv]
        exact List.getElem_mem hi
    refine brc_intro (fun h => ?_) (fun h => ?_)
    · have h : k < M.changes.length := by simp at h; omega
      refine ⟨⟨by omega, by omega⟩, ?_⟩
      obtain ⟨a, ha, hat⟩ := hD.own.rds.idxS (i := k) (by omega) (by decide) hS4 (fun c hc => by simp [DS.chunks, hc]) (t := 153) (by kernel_rfl) (by kernel_rfl)
      rw [ha, chV_at D.bs M.changes k M.changes[k] (by simp [h])] at *
      refine ⟨M.changes[k].gone, M.changes[k].new, _, by simpa [chV] using hat, ?_⟩
      generalize hp : (if M.changes[k].new = noName then none else filePtr D.bs M.changes[k].file) = p
      obtain ⟨b, w5, h5, hS5⟩ := hS4.alloc (t := 153) z153
      refine ⟨_, w5, h5, ?_⟩
      obtain ⟨w6, h6, hS6⟩ := hS5.store (o := 0) (n := 3) (v := .agg #[.string M.changes[k].gone, .string M.changes[k].new, .pointer p]) (t := 153) (by kernel_rfl) rfl (by simp) (by simp [Value.cells, Value.oneCell'])
      refine ⟨w6, h6, M.changes[k].new, hS6.load (o := 1) List.mem_cons_self rfl (by kernel_rfl), ?_⟩
      have ht : M.changes.take (k + 1) = M.changes.take k ++ [M.changes[k]] := by rw [List.take_add_one]; simp [h]
      rw [ba_ne]
      refine brc_intro (fun hn => ?_) (fun hn => ?_)
      · have hn : M.changes[k].new ≠ noName := by simpa using hn
        rw [if_neg hn] at hp
        have hi := hD.chOk _ (List.getElem_mem h) hn
        rw [filePtr_some hi] at hp
        subst hp
        refine ⟨_, hS6.load (o := 2) List.mem_cons_self rfl (by kernel_rfl), ?_⟩
        have hS6' : Sep E w6 (setM m1 lu cu :: (([(b, Obj.cells (spl [.string ByteArray.empty, .string ByteArray.empty, .pointer none] 0 (Value.agg #[.string M.changes[k].gone, .string M.changes[k].new, .pointer (some ⟨D.bs[M.changes[k].file], 0, none⟩)]).cells.toList).toArray 153 (0, 0))] ++ G) ++ (D.chunks M d ++ L))) := hS6.weak (by intro f; simp only [ms_append, ms_cons, ms_nil]; omega)
        obtain ⟨w7, l', c', h7, hw', hv', hk', hS7⟩ := hS6'.put hwu hkb hvu (List.getElem_mem hi)
        refine ⟨w7, h7, M.changes.length - (k + 1), by omega, k + 1, l', c', _, by omega, rfl, by rw [w64 (by omega) (by omega)]; rfl, hw', hv', fun b => ?_, hS7⟩
        rw [hk', hku, ht]
        simp only [List.mem_append, List.mem_singleton]
        constructor
        · rintro ((h1 | ⟨c, hc1, hc2⟩) | rfl)
          · exact .inl h1
          · exact .inr ⟨c, .inl hc1, hc2⟩
          · exact .inr ⟨_, .inr rfl, hn, filePtr_some hi⟩
        · rintro (h1 | ⟨c, hc1 | rfl, hc2, hc3⟩)
          · exact .inl (.inl h1)
          · exact .inl (.inr ⟨c, hc1, hc2, hc3⟩)
          · rw [filePtr_some hi] at hc3
            simp only [Option.some.injEq, Addr.mk.injEq, and_true] at hc3
            exact .inr hc3.symm
      · have hn : M.changes[k].new = noName := by simpa using hn
        refine ⟨M.changes.length - (k + 1), by omega, k + 1, lu, cu, (b, Obj.cells (spl [.string ByteArray.empty, .string ByteArray.empty, .pointer none] 0 (Value.agg #[.string M.changes[k].gone, .string M.changes[k].new, .pointer p]).cells.toList).toArray 153 (0, 0)) :: G, by omega, rfl, by rw [w64 (by omega) (by omega)]; rfl, hwu, hvu, fun b => ?_, hS6.weak (by intro f; simp only [ms_append, ms_cons, ms_nil]; omega)⟩
        rw [hku, ht]
        simp only [List.mem_append, List.mem_singleton]
        constructor
        · rintro (h1 | ⟨c, hc1, hc2⟩)
          · exact .inl h1
          · exact .inr ⟨c, .inl hc1, hc2⟩
        · rintro (h1 | ⟨c, hc1 | rfl, hc2, hc3⟩)
          · exact .inl h1
          · exact .inr ⟨c, hc1, hc2, hc3⟩
          · exact absurd hn hc2
    · -- the sum
      have h : k = M.changes.length := by simp at h; omega
      subst h
      rw [List.take_length] at hku
      obtain ⟨it2, w5, h5, hS5⟩ := hS4.range (mt := 160) List.mem_cons_self u160
      refine ⟨_, w5, h5, ?_⟩
      have hused : ms (lenAt D.fs) (lu.map (·.k)) = M.used := by
        rw [sum_held D.fs hnod _ hwu.keys hkb]
        unfold MDisk.used
        rw [← hD.files]
        refine (usedTo_ms M D.fs 0 (fun r => r.b ∈ lu.map (·.k)) fun j r hj => ?_).symm
        have hjl : j < D.bs.length := by
          have := (List.getElem?_eq_some_iff.1 hj).1
          simpa [DS.bs] using this
        have hjb : D.bs[j] = r.b := by
          have := List.getElem?_eq_some_iff.1 hj
          simp [DS.bs, this.2]
        have hfp : filePtr D.bs j = some ⟨r.b, 0, none⟩ := by rw [filePtr_some hjl, hjb]
        rw [Nat.zero_add, holds_iff, hku]
        constructor
        · rintro (⟨e, he, hv⟩ | ⟨c, hcm, hcn, hcv⟩)
          · obtain ⟨i, hf, hi, hv'⟩ := hD.kept.ent he
            rw [hv] at hv'
            have : filePtr D.bs i = filePtr D.bs j := by rw [hfp]; simpa using hv'.symm
            have := filePtr_inj hnod hi this
            subst this
            exact .inl ⟨_, mem_of_findN hf, rfl⟩
          · have := filePtr_inj hnod (hD.chOk c hcm hcn) (hcv.trans hfp.symm)
            exact .inr ⟨c, hcm, hcn, this⟩
        · rintro (⟨x, hx, rfl⟩ | ⟨c, hcm, hcn, rfl⟩)
          · have hg := hD.kept.get x.1
            rw [findN_mem hD.kept.sorted hx] at hg
            obtain ⟨e, he, _, hv⟩ := mem_of_getE hg
            exact .inl ⟨e, he, by rw [hv]; show Value.pointer (filePtr D.bs x.2) = _; rw [hfp]⟩
          · exact .inr ⟨c, hcm, hcn, hfp⟩
      have htot : ∀ seen : List Nat, ms (fun e : Ent Nat => if e.born ∈ seen then lenAt D.fs e.k else 0) lu ≤ M.used := fun seen => by
        rw [← hused, ms_map]
        exact ms_mono (fun x => by split <;> omega) lu
      have hut : M.used ≤ M.total := by
        rw [← hused, sum_held D.fs hnod _ hwu.keys hkb]
        unfold MDisk.total
        rw [← hD.files, ms_map]
        exact ms_mono (fun x => by split <;> omega) D.fs
      refine ⟨fun n σ w6 => ∃ seen : List Nat, n = lu.length - cnt seen lu ∧ σ.1 = ((ms (fun e : Ent Nat => if e.born ∈ seen then lenAt D.fs e.k else 0) lu : Nat) : Int) ∧ Sep E w6 (iterC it2 m1 cu seen :: setM m1 lu cu :: (G ++ (D.chunks M d ++ L))), _, ⟨[], rfl, ?_, hS5⟩, ?_⟩
      · have : ms (fun e : Ent Nat => if e.born ∈ ([] : List Nat) then lenAt D.fs e.k else 0) lu = 0 := ms_zero fun x _ => by simp
        rw [this]
        rfl
      rintro n ⟨σ, _⟩ w6 ⟨seen, rfl, hσ, hS6⟩ _
      dsimp only at hσ ⊢
      subst hσ
      refine hS6.next (m := m1) (l := lu) (kv := ptrV) List.mem_cons_self hwu.born (fun hall => ?_) (fun e he hes w7 hS7 => ?_)
      · have : ms (fun e : Ent Nat => if e.born ∈ seen then lenAt D.fs e.k else 0) lu = M.used := by
          rw [← hused, ms_map]
          exact ms_congr fun x hx => by rw [if_pos (hall x hx)]
        rw [this]
        exact ⟨iterC it2 m1 cu seen :: setM m1 lu cu :: G, rfl, hS6⟩
      · have hev : e.v = .bool true := hvu e he
        have hent := hS7.entry (it := it2) (m := m1) (l := lu) (kv := ptrV) List.mem_cons_self (List.mem_cons_of_mem _ List.mem_cons_self) he hwu.borns
        rw [hev] at hent
        refine ⟨some ⟨e.k, 0, none⟩, true, hent, ?_⟩
        obtain ⟨r, hr, hrb⟩ := List.mem_map.1 (hkb e.k (List.mem_map.2 ⟨e, he, rfl⟩))
        have hm : fChunk r ∈ iterC it2 m1 cu (seen ++ [e.born]) :: setM m1 lu cu :: (G ++ (D.chunks M d ++ L)) := by
          simp only [DS.chunks, List.mem_cons, List.mem_append, List.mem_map]
          exact .inr (.inr (.inr (.inl (.inr (.inr (.inr (.inr ⟨r, hr, rfl⟩)))))))
        refine ⟨r.s, ?_, lu.length - cnt (seen ++ [e.born]) lu, cnt_step he hwu.borns hes, seen ++ [e.born], rfl, ?_, hS7⟩
        · rw [← hrb]
          exact hS7.load (o := 0) hm rfl (by kernel_rfl)
        · have hst := ms_seen (fun e : Ent Nat => lenAt D.fs e.k) seen lu e he hwu.borns hes
          have hle := htot (seen ++ [e.born])
          have hsz := (hD.bytes r hr).size
          have hl := lenAt_of hnod hr
          rw [hrb] at hl
          rw [hst] at hle ⊢
          rw [hsz, w64 (by omega) (by omega), hl]
          rfl
  · obtain ⟨i, hf, hi, hv⟩ := hD.kept.ent he
    have hent := hS4.entry (it := it) (m := D.mq) (l := D.lk) (kv := Value.string) List.mem_cons_self (by simp [DS.chunks]) he hD.kept.wf.borns
    rw [hv] at hent
    refine ⟨e.k, _, hent, ?_⟩
    have hS4' : Sep E w4 (setM m1 lu cu :: ([iterC it D.mq D.ck (seen ++ [e.born])] ++ (D.chunks M d ++ L))) := hS4.weak (by intro f; simp only [ms_append, ms_cons, ms_nil]; omega)
    obtain ⟨w5, l', c', h5, hw', hv', hk', hS5⟩ := hS4'.put hwu hkb hvu (List.getElem_mem hi)
    rw [filePtr_some hi]
    refine ⟨w5, h5, _, cnt_step he hD.kept.wf.borns hes, seen ++ [e.born], l', c', rfl, hw', hv', fun b => ?_, hS5.weak (by intro f; simp only [ms_append, ms_cons, ms_nil]; omega)⟩
    rw [hk', hku]
    constructor
    · rintro (⟨e', h1, h2, h3⟩ | rfl)
      · exact ⟨e', h1, by simp [h2], h3⟩
      · exact ⟨e, he, by simp, by rw [hv, filePtr_some hi]⟩
    · rintro ⟨e', h1, h2, h3⟩
      rcases List.mem_append.1 h2 with h2 | h2
      · exact .inl ⟨e', h1, h2, h3⟩
      · rw [List.mem_singleton] at h2
        have := born_inj hD.kept.wf.borns h1 he h2
        subst this
        rw [hv, filePtr_some hi] at h3
        simp only [Value.pointer.injEq, Option.some.injEq, Addr.mk.injEq, and_true] at h3
        exact .inr h3.symm

theorem ready_total (M : MDisk) : M.ready.2.total = M.total := by
  unfold MDisk.total
  rw [(ready_same M).1]

theorem total_at {M : MDisk} {f : MFile} (h : f ∈ M.files) : f.bytes.length ≤ M.total := ms_pos (f := fun f : MFile => f.bytes.length) h

theorem used_le (M : MDisk) : M.used ≤ M.total := by
  have : ∀ (fs : List MFile) (i : Nat), M.usedTo i fs ≤ ms (fun f => f.bytes.length) fs := fun fs => by
    induction fs with
    | nil => exact fun _ => Nat.le_refl _
    | cons f fs ih =>
      intro i
      have := ih (i + 1)
      unfold MDisk.usedTo
      rw [ms_cons]
      split <;> omega
  exact this M.files 0

/-- Append. -/
theorem k33 {E w : World} {L I : List Chunk} {M : MDisk} {D : DS} {d : Nat} (hl : M.left ≤ 9223372036854775807) (hS : Sep E w (D.chunks M d ++ L)) (hD : DRep D M I) (hT : M.total ≤ 549755813888) (hc : M.changes.length ≤ 1099511627776) (hI : ∀ c ∈ I, c ∈ L) (n : ByteArray) {x : SV} {b : List UInt8} (hx : RdB L x b) (hb : b.length ≤ 549755813888) :
    Calls Pr 33 #[.pointer (some ⟨d, 0, none⟩), .string n, .slice x.a x.len x.cap] w fun e w' => ∃ (D' : DS) (C : List Chunk), e = .returned (.int .i64 (M.append n b).1) ∧ DRep D' (M.append n b).2 (C ++ I) ∧ Sep E w' (D'.chunks (M.append n b).2 d ++ (C ++ L)) := by
  refine call33 ?_
  unfold ir33
  refine (k87 hl hS hD n).mono ?_
  rintro _ w1 ⟨rfl, hS1⟩
  have hD1 := hD.ready
  have hst := ready_same M
  have hT1 : M.ready.2.total ≤ 549755813888 := by rw [ready_total]; exact hT
  refine ⟨_, _, rfl, ?_⟩
  unfold MDisk.append
  rcases find_cases M n with ⟨e, he, hf⟩ | ⟨i, hf, hi⟩
  · rw [hf]
    exact brc_true (by simpa using he) ⟨D, [], rfl, hD1, hS1⟩
  · rw [hf]
    refine brc_false rfl ?_
    obtain ⟨A, r, B, hfs, hA, hp, hfa, hr⟩ := hD1.file (hD1.now.ids n i hi)
    simp only [Option.bind_some, hp]
    refine ⟨fun w => Sep E w (D.chunks M.ready.2 d ++ L), hS1.drew, (M.ready.2.room : Int), fun w hw => hw.load (o := 3) (D.dmem _ _ _) rfl (by kernel_rfl), ?_⟩
    refine (k40 hS1.drew hD1 (by omega) (by rw [hst.2.2.2.1]; exact hc)).mono ?_
    rintro _ w2 ⟨C, rfl, hS2⟩
    refine ⟨_, rfl, fun w => w = w2, ?_, rfl, ?_⟩
    · rintro w rfl
      exact hS2.weak (by intro f; simp only [ms_append, ms_cons, ms_nil]; omega)
    have hxs := hx.size
    have hul := used_le M.ready.2
    rw [w64 (by omega) (by omega)]
    refine brc_intro (fun h => ?_) (fun h => ?_)
    · have h : M.ready.2.used + b.length > M.ready.2.room := by simp at h; omega
      simp only [h, if_true]
      refine ⟨D, C, by trivial, hD1.right C, hS2.weak (by intro f; simp only [ms_append, ms_cons, ms_nil]; omega)⟩
    · have h : ¬ M.ready.2.used + b.length > M.ready.2.room := by simp at h; omega
      simp only [h, if_false]
      have hm : fChunk r ∈ C ++ (D.chunks M.ready.2 d ++ L) := by simp [DS.chunks, hfs]
      refine ⟨r.s, hS2.load (o := 0) hm rfl (by kernel_rfl), ?_⟩
      have hrb : r.f.bytes.length ≤ 549755813888 := by
        refine Nat.le_trans (total_at ?_) hT1
        rw [← hD1.files]
        exact List.mem_map.2 ⟨r, hr, rfl⟩
      obtain ⟨s2, w3, h3, hc3⟩ := hS2.join ((((hD1.bytes r hr).mono hI).right _).right _) ((hx.right _).right _) (by omega)
      refine ⟨s2, w3, h3, hc3.mono ?_⟩
      rintro _ w4 ⟨s3, C3, rfl, hr3, hS4⟩
      refine ⟨s3, rfl, ?_⟩
      have hS5 : Sep E w4 (fChunk r :: (dChunk M.ready.2 d D.mn D.mq D.cs :: strM D.mn D.ln D.cn :: strM D.mq D.lk D.ck :: (D.CC ++ (A.map fChunk ++ B.map fChunk)) ++ (C3 ++ (C ++ L)))) := by
        refine hS4.weak ?_
        intro f
        simp only [DS.chunks, hfs, ms_append, ms_cons, ms_nil, List.map_append, List.map_cons, List.map_nil]
        omega
      obtain ⟨w5, h5, hS6⟩ := hS5.store (o := 0) (n := 1) (v := slV s3) (t := 26) (by kernel_rfl) rfl (by simp) (by simp [Value.cells, Value.oneCell'])
      refine ⟨w5, h5, _, C3 ++ C, by trivial, hA ▸ (hD1.right (C3 ++ C)).turn hfs (s := s3) (fun f => ⟨f.bytes ++ b, f.kept⟩) (((hr3.left _).left _)), ?_⟩
      have hS6' : Sep E w5 (fChunk ⟨r.b, s3, ⟨r.f.bytes ++ b, r.f.kept⟩⟩ :: (dChunk M.ready.2 d D.mn D.mq D.cs :: strM D.mn D.ln D.cn :: strM D.mq D.lk D.ck :: (D.CC ++ (A.map fChunk ++ B.map fChunk)) ++ (C3 ++ (C ++ L)))) := hS6
      refine hS6'.weak ?_
      intro f
      simp only [DS.chunks, dChunk_set, ms_append, ms_cons, ms_nil, List.map_append, List.map_cons, List.map_nil]
      omega

end Go.Proofs.Ytonjaaljnjjjcaa
