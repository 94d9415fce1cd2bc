/- Contracts: sums, fixed numbers, frames of the program. Conditions: as each lemma says. -/
import GoSem.Op.String
import Derived.Laws.Strings
import Derived.Lib.Bytealg
import Derived.Maps.AppendAt
import Derived.OwnWalk
import Derived.Lib.AppendZeros
import Derived.Laws.CopyRow
import Derived.Test.YtonjaaljnjjjcaaQ1
/- A disk that may crash, in plain Lean. No program in sight. -/
set_option linter.unusedVariables false
set_option linter.unusedSimpArgs false
namespace Go.Proofs.Ytonjaaljnjjjcaa
open Go

/-! ### Names -/
def nlt (a b : ByteArray) : Prop := Op.bytesLess a.toList b.toList = true
instance (a b : ByteArray) : Decidable (nlt a b) := by unfold nlt; infer_instance
abbrev Names := List (ByteArray × Nat)

def findN (k : ByteArray) : Names → Option Nat
  | [] => none
  | x :: l => if x.1 = k then some x.2 else findN k l
def delN (k : ByteArray) : Names → Names
  | [] => []
  | x :: l => if x.1 = k then delN k l else x :: delN k l
/-- Put ahead of the first that is greater. -/
def insN (k : ByteArray) (f : Nat) : Names → Names
  | [] => [(k, f)]
  | x :: l => if nlt k x.1 then (k, f) :: x :: l else x :: insN k f l

structure MFile where
  bytes : List UInt8
  kept : Nat

structure MChange where
  gone : ByteArray
  new : ByteArray
  file : Nat

def noName : ByteArray := ByteArray.empty

def doN (nm : Names) (c : MChange) : Names := if c.new = noName then delN c.gone nm else insN c.new c.file (delN c.new (delN c.gone nm))

structure MDisk where
  files : List MFile
  now : Names
  kept : Names
  changes : List MChange
  room : Nat
  down : Bool
  doomed : Bool
  left : Nat

namespace MDisk

def new (room : Int) : MDisk := ⟨[], [], [], [], room.toNat, false, false, 0⟩

def ready (M : MDisk) : Int × MDisk :=
  if M.down then (40, M)
  else if M.doomed then (if M.left = 0 then (40, { M with down := true }) else (0, { M with left := M.left - 1 }))
  else (0, M)

def chg (M : MDisk) (c : MChange) : MDisk := { M with now := doN M.now c, changes := M.changes ++ [c] }

def right (n : ByteArray) : Bool := decide (1 ≤ n.size) && decide (n.size ≤ 32)

def create (M : MDisk) (n : ByteArray) : Int × MDisk :=
  if M.ready.1 ≠ 0 then M.ready
  else if right n = false then (1, M.ready.2)
  else if (findN n M.ready.2.now).isSome then (4, M.ready.2)
  else (0, ({ M.ready.2 with files := M.ready.2.files ++ [MFile.mk [] 0] } : MDisk).chg ⟨noName, n, M.ready.2.files.length⟩)

def holds (M : MDisk) (i : Nat) : Bool := M.kept.any (fun x => decide (x.2 = i)) || M.changes.any (fun c => decide (c.new ≠ noName) && decide (c.file = i))

/-- The bytes of those of the first files that are held. -/
def usedTo (M : MDisk) : Nat → List MFile → Nat
  | _, [] => 0
  | i, f :: fs => (if M.holds i then f.bytes.length else 0) + usedTo M (i + 1) fs
def used (M : MDisk) : Nat := M.usedTo 0 M.files

def find (M : MDisk) (n : ByteArray) : Int × Option Nat × MDisk :=
  if M.ready.1 ≠ 0 then (M.ready.1, none, M.ready.2)
  else match findN n M.ready.2.now with
    | none => (2, none, M.ready.2)
    | some i => (0, some i, M.ready.2)

def setFile (M : MDisk) (i : Nat) (g : MFile → MFile) : MDisk := { M with files := M.files.modify i g }
def fileAt (M : MDisk) (i : Nat) : MFile := M.files.getD i ⟨[], 0⟩

def append (M : MDisk) (n : ByteArray) (b : List UInt8) : Int × MDisk :=
  match M.find n with
  | (e, none, M') => (e, M')
  | (_, some i, M') => if M'.used + b.length > M'.room then (41, M') else (0, M'.setFile i fun f => ⟨f.bytes ++ b, f.kept⟩)

def read (M : MDisk) (n : ByteArray) : Int × List UInt8 × MDisk :=
  match M.find n with
  | (e, none, M') => (e, [], M')
  | (_, some i, M') => (0, (M'.fileAt i).bytes, M')

def sync (M : MDisk) (n : ByteArray) : Int × MDisk :=
  match M.find n with
  | (e, none, M') => (e, M')
  | (_, some i, M') => (0, M'.setFile i fun f => ⟨f.bytes, f.bytes.length⟩)

def rename (M : MDisk) (a b : ByteArray) : Int × MDisk :=
  match M.find a with
  | (e, none, M') => (e, M')
  | (_, some i, M') => if right b = false then (1, M') else (0, M'.chg ⟨a, b, i⟩)

def remove (M : MDisk) (n : ByteArray) : Int × MDisk :=
  match M.find n with
  | (e, none, M') => (e, M')
  | (_, some _, M') => (0, M'.chg ⟨n, noName, 0⟩)

def syncNames (M : MDisk) : Int × MDisk :=
  if M.ready.1 ≠ 0 then M.ready else (0, { M.ready.2 with kept := M.ready.2.now, changes := [] })

def names (M : MDisk) : Int × List ByteArray × MDisk :=
  if M.ready.1 ≠ 0 then (M.ready.1, [], M.ready.2) else (0, M.ready.2.now.map (·.1), M.ready.2)

def doom (M : MDisk) (n : Int) : Int × MDisk := if n < 0 then (1, M) else (0, { M with doomed := true, left := n.toNat })
def grow (M : MDisk) (n : Int) : Int × MDisk := if n < 0 then (1, M) else (0, { M with room := n.toNat })

/-- How many bytes are left, of those that are not kept. -/
def leftOf (ns : List Int) (i most : Nat) : Nat := match ns with
  | [] => 0
  | _ => min (max (ns.getD (i % ns.length) 0) 0).toNat most

def crashed (M : MDisk) (ns : List Int) : Nat → Names → List MFile
  | _, [] => []
  | i, x :: l => ⟨(M.fileAt x.2).bytes.take ((M.fileAt x.2).kept + leftOf ns i ((M.fileAt x.2).bytes.length - (M.fileAt x.2).kept)), (M.fileAt x.2).kept + leftOf ns i ((M.fileAt x.2).bytes.length - (M.fileAt x.2).kept)⟩ :: crashed M ns (i + 1) l
def numbered : Nat → Names → Names
  | _, [] => []
  | i, x :: l => (x.1, i) :: numbered (i + 1) l

def crash (M : MDisk) (names : Int) (ns : List Int) : MDisk :=
  let at_ := (M.changes.take names.toNat).foldl doN M.kept
  { files := M.crashed ns 0 at_, now := numbered 0 at_, kept := numbered 0 at_, changes := [], room := M.room, down := false, doomed := false, left := 0 }

end MDisk

/-! ### Names: laws -/
theorem nlt_irrefl (a : ByteArray) : ¬ nlt a a := by
  have h : ∀ l : List UInt8, Op.bytesLess l l = false := fun l => by
    induction l with
    | nil => rfl
    | cons x l ih => simp [Op.bytesLess, ih]
  simp [nlt, h]

theorem findN_del (k j : ByteArray) : ∀ l : Names, findN j (delN k l) = if j = k then none else findN j l
  | [] => by simp [delN, findN]
  | x :: l => by
    unfold delN
    by_cases hx : x.1 = k
    · rw [if_pos hx, findN_del k j l]
      by_cases hj : j = k
      · simp [hj]
      · have : ¬ x.1 = j := fun e => hj (e ▸ hx)
        simp [hj, findN, this]
    · rw [if_neg hx]
      unfold findN
      rw [findN_del k j l]
      by_cases hxj : x.1 = j
      · have : ¬ j = k := fun e => hx (hxj.trans e)
        simp [hxj, this]
      · simp [hxj]

theorem findN_ins (k : ByteArray) (f : Nat) (j : ByteArray) : ∀ l : Names, findN k l = none → findN j (insN k f l) = if j = k then some f else findN j l
  | [], _ => by
    simp only [insN, findN]
    by_cases h : j = k
    · simp [h]
    · have : ¬ k = j := fun e => h e.symm
      simp [h, this]
  | x :: l, h => by
    have hx : ¬ x.1 = k := fun e => by simp [findN, e] at h
    have hl : findN k l = none := by simpa [findN, hx] using h
    unfold insN
    split
    · by_cases hj : j = k
      · simp [findN, hj]
      · have : ¬ k = j := fun e => hj e.symm
        simp [findN, hj, this]
    · unfold findN
      rw [findN_ins k f j l hl]
      by_cases hxj : x.1 = j
      · have : ¬ j = k := fun e => hx (hxj.trans e)
        simp [hxj, this]
      · simp [hxj]

theorem findN_do (nm : Names) (c : MChange) (j : ByteArray) :
    findN j (doN nm c) = if c.new ≠ noName ∧ j = c.new then some c.file else if j = c.gone then none else findN j nm := by
  unfold doN
  by_cases h : c.new = noName
  · rw [if_pos h, findN_del]
    simp [h]
  · rw [if_neg h, findN_ins _ _ _ _ (by rw [findN_del]; simp), findN_del, findN_del]
    by_cases hj : j = c.new
    · simp [h, hj]
    · simp [hj]

theorem bl_trans : ∀ {a b c : List UInt8}, Op.bytesLess a b = true → Op.bytesLess b c = true → Op.bytesLess a c = true
  | _, [], _, h, _ => by simp [Op.bytesLess] at h
  | _, _ :: _, [], _, h => by simp [Op.bytesLess] at h
  | [], _ :: _, _ :: _, _, _ => rfl
  | x :: a, y :: b, z :: c, h1, h2 => by
    simp only [Op.bytesLess, Bool.or_eq_true, decide_eq_true_eq, Bool.and_eq_true, beq_iff_eq] at h1 h2 ⊢
    rcases h1 with h1 | ⟨rfl, h1⟩
    · rcases h2 with h2 | ⟨rfl, h2⟩
      · exact .inl (UInt8.lt_trans h1 h2)
      · exact .inl h1
    · rcases h2 with h2 | ⟨rfl, h2⟩
      · exact .inl h2
      · exact .inr ⟨rfl, bl_trans h1 h2⟩
theorem bl_total : ∀ {a b : List UInt8}, a ≠ b → Op.bytesLess a b = true ∨ Op.bytesLess b a = true
  | [], [], h => absurd rfl h
  | [], _ :: _, _ => .inl rfl
  | _ :: _, [], _ => .inr rfl
  | x :: a, y :: b, h => by
    simp only [Op.bytesLess, Bool.or_eq_true, decide_eq_true_eq, Bool.and_eq_true, beq_iff_eq]
    by_cases hxy : x = y
    · subst hxy
      have : a ≠ b := fun e => h (by rw [e])
      rcases bl_total this with h1 | h1
      · exact .inl (.inr ⟨rfl, h1⟩)
      · exact .inr (.inr ⟨rfl, h1⟩)
    · have h1 : x.toNat ≠ y.toNat := fun e => hxy (UInt8.toNat_inj.1 e)
      rcases Nat.lt_or_gt_of_ne h1 with h2 | h2
      · exact .inl (.inl (UInt8.lt_iff_toNat_lt.2 h2))
      · exact .inr (.inl (UInt8.lt_iff_toNat_lt.2 h2))

theorem ba_ext {a b : ByteArray} (h : a.toList = b.toList) : a = b := by
  rw [ByteArray.toList_eq, ByteArray.toList_eq] at h
  cases a; cases b
  rename_i x y
  congr 1
  exact Array.ext' h

theorem nlt_trans {a b c : ByteArray} (h : nlt a b) (h' : nlt b c) : nlt a c := bl_trans h h'
theorem nlt_total {a b : ByteArray} (h : a ≠ b) : nlt a b ∨ nlt b a := bl_total fun e => h (ba_ext e)
theorem nlt_ne {a b : ByteArray} (h : nlt a b) : a ≠ b := fun e => nlt_irrefl a (e ▸ h)

/-- Names rise. -/
def SortedN (nm : Names) : Prop := nm.Pairwise fun x y => nlt x.1 y.1

theorem delN_sub (k : ByteArray) : ∀ nm : Names, (delN k nm).Sublist nm
  | [] => List.Sublist.refl _
  | x :: nm => by
    unfold delN
    split
    · exact (delN_sub k nm).cons x
    · exact (delN_sub k nm).cons_cons x
theorem delN_sorted {nm : Names} (h : SortedN nm) (k : ByteArray) : SortedN (delN k nm) := List.Pairwise.sublist (delN_sub k nm) h
theorem delN_no (k : ByteArray) : ∀ nm : Names, ∀ x ∈ delN k nm, x.1 ≠ k
  | [] => by simp [delN]
  | x :: nm => by
    unfold delN
    split
    · exact delN_no k nm
    · rename_i h
      intro y hy
      rcases List.mem_cons.1 hy with rfl | hy
      · exact h
      · exact delN_no k nm y hy
theorem insN_mem (k : ByteArray) (f : Nat) : ∀ (nm : Names) (x : ByteArray × Nat), x ∈ insN k f nm ↔ x = (k, f) ∨ x ∈ nm
  | [], x => by simp [insN]
  | y :: nm, x => by
    unfold insN
    split
    · simp
    · rw [List.mem_cons, insN_mem k f nm x, List.mem_cons]
      constructor
      · rintro (h | h | h)
        · exact .inr (.inl h)
        · exact .inl h
        · exact .inr (.inr h)
      · rintro (h | h | h)
        · exact .inr (.inl h)
        · exact .inl h
        · exact .inr (.inr h)
theorem insN_sorted (k : ByteArray) (f : Nat) : ∀ {nm : Names}, SortedN nm → (∀ x ∈ nm, x.1 ≠ k) → SortedN (insN k f nm)
  | [], _, _ => List.pairwise_singleton _ _
  | y :: nm, h, hn => by
    have h := List.pairwise_cons.1 h
    unfold insN
    split
    · rename_i hk
      refine List.pairwise_cons.2 ⟨fun x hx => ?_, List.pairwise_cons.2 h⟩
      rcases List.mem_cons.1 hx with rfl | hx
      · exact hk
      · exact nlt_trans hk (h.1 x hx)
    · rename_i hk
      have hyk : nlt y.1 k := (nlt_total (hn y List.mem_cons_self)).resolve_right hk
      refine List.pairwise_cons.2 ⟨fun x hx => ?_, insN_sorted k f h.2 fun x hx => hn x (List.mem_cons_of_mem _ hx)⟩
      rcases (insN_mem k f nm x).1 hx with rfl | hx
      · exact hyk
      · exact h.1 x hx
theorem doN_sorted {nm : Names} (h : SortedN nm) (c : MChange) : SortedN (doN nm c) := by
  unfold doN
  split
  · exact delN_sorted h _
  · exact insN_sorted _ _ (delN_sorted (delN_sorted h _) _) (delN_no _ _)

theorem findN_mem {nm : Names} (h : SortedN nm) {x : ByteArray × Nat} (hx : x ∈ nm) : findN x.1 nm = some x.2 := by
  induction nm with
  | nil => cases hx
  | cons y nm ih =>
    have h := List.pairwise_cons.1 h
    unfold findN
    rcases List.mem_cons.1 hx with rfl | hx
    · simp
    · rw [if_neg (nlt_ne (h.1 x hx))]
      exact ih h.2 hx
theorem mem_of_findN {k : ByteArray} {i : Nat} : ∀ {nm : Names}, findN k nm = some i → (k, i) ∈ nm
  | [], h => by cases h
  | x :: nm, h => by
    unfold findN at h
    split at h
    · rename_i hx
      simp only [Option.some.injEq] at h
      rw [← hx, ← h]
      exact List.mem_cons_self
    · exact List.mem_cons_of_mem _ (mem_of_findN h)

end Go.Proofs.Ytonjaaljnjjjcaa

/- A heap assertion: blocks that are known whole, each once; and what operations do to it. Conditions: as each lemma says. -/
set_option linter.unusedVariables false
set_option linter.unusedSimpArgs false
namespace Go.Proofs.Ytonjaaljnjjjcaa
open Go Go.RowKit

/-! ### Sums over lists: which list is part of which -/
def ms {α : Type} (f : α → Nat) : List α → Nat
  | [] => 0
  | x :: l => f x + ms f l

theorem ms_nil {α : Type} (f : α → Nat) : ms f [] = 0 := rfl
theorem ms_cons {α : Type} (f : α → Nat) (x : α) (l : List α) : ms f (x :: l) = f x + ms f l := rfl
theorem ms_append {α : Type} (f : α → Nat) (l l' : List α) : ms f (l ++ l') = ms f l + ms f l' := by
  induction l with
  | nil => simp [ms]
  | cons x l ih => simp [ms, ih]; omega
theorem ms_perm {α : Type} (f : α → Nat) {l l' : List α} (h : l.Perm l') : ms f l = ms f l' := by
  induction h with
  | nil => rfl
  | cons x _ ih => simp [ms, ih]
  | swap x y l => simp [ms]; omega
  | trans _ _ ih ih' => rw [ih, ih']

/-- Part of a list, counted. -/
def Part {α : Type} (l' l : List α) : Prop := ∀ f : α → Nat, ms f l' ≤ ms f l
theorem Part.refl {α : Type} (l : List α) : Part l l := fun _ => Nat.le_refl _
theorem Part.trans {α : Type} {a b c : List α} (h : Part a b) (h' : Part b c) : Part a c := fun f => Nat.le_trans (h f) (h' f)
theorem Part.of_perm {α : Type} {l l' : List α} (h : l'.Perm l) : Part l' l := fun f => Nat.le_of_eq (ms_perm f h)

open Classical in
theorem ms_pos {α : Type} {f : α → Nat} {l : List α} {x : α} (hx : x ∈ l) : f x ≤ ms f l := by
  induction l with
  | nil => cases hx
  | cons y l ih =>
    rcases List.mem_cons.1 hx with rfl | h
    · simp [ms]
    · have := ih h; simp [ms]; omega

theorem ms_zero {α : Type} {f : α → Nat} {l : List α} (h : ∀ x ∈ l, f x = 0) : ms f l = 0 := by
  induction l with
  | nil => rfl
  | cons y l ih => simp [ms, h y, ih fun x hx => h x (List.mem_cons_of_mem _ hx)]

open Classical in
theorem Part.mem {α : Type} {l' l : List α} (h : Part l' l) {x : α} (hx : x ∈ l') : x ∈ l := by
  refine Classical.byContradiction fun hn => ?_
  have h1 := h (fun y => if y = x then 1 else 0)
  have h2 : (1 : Nat) ≤ ms (fun y => if y = x then 1 else 0) l' := by
    have := ms_pos (f := fun y => if y = x then 1 else 0) hx
    simpa using this
  have h3 : ms (fun y => if y = x then 1 else 0) l = 0 := ms_zero fun y hy => if_neg fun (e : y = x) => hn (e ▸ hy)
  omega

abbrev Chunk := Nat × Obj

/-- Is it that block's? -/
def at1 (b : Nat) (c : Chunk) : Nat := if c.1 = b then 1 else 0

/-- In w the blocks of L are these, each stands once in L; the outside is E's. -/
structure Sep (E w : World) (L : List Chunk) : Prop where
  os : w.os = E.os
  tape : w.tape = E.tape
  output : w.output = E.output
  uniq : ∀ b, ms (at1 b) L ≤ 1
  at_ : ∀ c ∈ L, w.heap[c.1]? = some c.2

theorem Sep.weak {E w : World} {L L' : List Chunk} (h : Sep E w L) (hp : Part L' L) : Sep E w L' :=
  ⟨h.os, h.tape, h.output, fun b => Nat.le_trans (hp _) (h.uniq b), fun c hc => h.at_ c (hp.mem hc)⟩

theorem Sep.drew {E w : World} {L : List Chunk} (h : Sep E w L) : Sep E w.drew L := ⟨h.os, h.tape, h.output, h.uniq, h.at_⟩

theorem Sep.lt {E w : World} {L : List Chunk} (h : Sep E w L) {c : Chunk} (hc : c ∈ L) : c.1 < w.heap.size := by
  have := h.at_ c hc
  exact (Array.getElem?_eq_some_iff.1 this).1

theorem Sep.ne {E w : World} {L : List Chunk} {b b' : Nat} {o o' : Obj} (h : Sep E w ((b, o) :: L)) (hc : (b', o') ∈ L) : b' ≠ b := fun e => by
  subst e
  have h1 := h.uniq b'
  have h2 := ms_pos (f := at1 b') hc
  simp [ms, at1] at h1 h2
  omega

/-- A new block. -/
theorem Sep.push {E w : World} {L : List Chunk} (h : Sep E w L) (o : Obj) : Sep E { w with heap := w.heap.push o } ((w.heap.size, o) :: L) := by
  refine ⟨h.os, h.tape, h.output, fun b => ?_, fun c hc => ?_⟩
  · by_cases hb : w.heap.size = b
    · have : ms (at1 b) L = 0 := ms_zero fun c hc => by
        have := h.lt hc
        simp [at1]; omega
      simp [ms, at1, hb] at this ⊢
      omega
    · have := h.uniq b
      simp [ms, at1, hb] at this ⊢
      exact this
  · rcases List.mem_cons.1 hc with rfl | hc
    · simp
    · have h1 := h.at_ c hc
      have h2 := h.lt hc
      simp [Array.getElem?_push, Nat.ne_of_lt h2, h1]

/-- A block that turns. -/
theorem Sep.turn {E w w' : World} {L : List Chunk} {b : Nat} {o o' : Obj} (h : Sep E w ((b, o) :: L)) (hos : w'.os = w.os) (ht : w'.tape = w.tape) (hout : w'.output = w.output)
    (hb : w'.heap[b]? = some o') (hne : ∀ i, i ≠ b → w'.heap[i]? = w.heap[i]?) : Sep E w' ((b, o') :: L) := by
  refine ⟨hos.trans h.os, ht.trans h.tape, hout.trans h.output, fun x => ?_, fun c hc => ?_⟩
  · have := h.uniq x
    simpa [ms, at1] using this
  · rcases List.mem_cons.1 hc with rfl | hc
    · exact hb
    · rw [hne c.1 (h.ne (o' := c.2) hc)]
      exact h.at_ c (List.mem_cons_of_mem _ hc)

/-- A whole world. -/
def whole (w : World) : List Chunk := (List.range w.heap.size).map fun b => (b, w.heap.getD b default)

theorem Sep.all (w : World) : Sep w w (whole w) := by
  refine ⟨rfl, rfl, rfl, fun b => ?_, fun c hc => ?_⟩
  · unfold whole
    have key : ∀ n, ms (at1 b) ((List.range n).map fun b => (b, w.heap.getD b default)) ≤ if b < n then 1 else 0 := by
      intro n
      induction n with
      | zero => simp [ms]
      | succ n ih =>
        rw [List.range_succ, List.map_append, ms_append]
        simp only [List.map_cons, List.map_nil, ms, at1]
        split <;> split at ih <;> split <;> omega
    have := key w.heap.size
    split at this <;> omega
  · obtain ⟨b, hb, rfl⟩ := List.mem_map.1 hc
    have hb := List.mem_range.1 hb
    simp [hb]

/-- Out of what stands at a call's end: what was there has not turned. -/
theorem Sep.below {w w' : World} {L : List Chunk} (h : Sep w w' L) (hp : Part (whole w) L) : Below w.heap.size w w' := by
  have hat : ∀ i, i < w.heap.size → w'.heap[i]? = w.heap[i]? := fun i hi => by
    have hm : (i, w.heap.getD i default) ∈ whole w := List.mem_map.2 ⟨i, List.mem_range.2 hi, rfl⟩
    have := h.at_ _ (hp.mem hm)
    rw [this]
    simp [hi]
  refine ⟨h.os, h.tape, h.output, ?_, hat⟩
  rcases Nat.eq_zero_or_pos w.heap.size with h0 | h0
  · rw [h0]; exact Nat.zero_le _
  · have := hat (w.heap.size - 1) (by omega)
    have h1 : w.heap[w.heap.size - 1]? ≠ none := by simp; omega
    rw [← this] at h1
    have h2 : w.heap.size - 1 < w'.heap.size := by
      refine Classical.byContradiction fun hn => h1 ?_
      simp; omega
    omega

/-! ### Loads and stores -/
def oneT (P : Program) (t : TypeId) : Bool := match P.underlying t with
  | some (.struct _) | some (.array _ _) | none => false
  | some _ => true

theorem run_isAgg_one {P : Program} {t : TypeId} (h : oneT P t = true) (w : World) : (isAgg t).run P w = .ok false w := by
  unfold oneT at h
  cases hu : P.underlying t with
  | none => simp [hu] at h
  | some d => cases d <;> simp [hu] at h <;> simp [isAgg, run_underlying hu]

theorem cell_of {E w : World} {L : List Chunk} (h : Sep E w L) {b : Nat} {cs : Array Value} {T : TypeId} {fr : Nat × Nat} (hc : (b, Obj.cells cs T fr) ∈ L) {o : Nat} {v : Value} (hv : cs[o]? = some v) :
    w.cell? ⟨b, o, none⟩ = some v := by
  have := h.at_ _ hc
  simp only at this
  simp [World.cell?, this, hv]

theorem Sep.load {E w : World} {L : List Chunk} (h : Sep E w L) {b : Nat} {cs : Array Value} {T : TypeId} {fr : Nat × Nat} (hc : (b, Obj.cells cs T fr) ∈ L) {o : Nat} {v : Value} (hv : cs[o]? = some v)
    {t : TypeId} (ht : oneT Pr t = true) : At Pr w (loadVar t ⟨b, o, none⟩) v := by
  unfold At loadVar
  simp [run_isAgg_one ht, cell_of h hc hv]

end Go.Proofs.Ytonjaaljnjjjcaa

/- A disk that may crash, in plain Lean: how big it is; a run's writer. No program in sight. -/
set_option linter.unusedVariables false
set_option linter.unusedSimpArgs false
namespace Go.Proofs.Ytonjaaljnjjjcaa
open Go

theorem ready_same (M : MDisk) : M.ready.2.files = M.files ∧ M.ready.2.now = M.now ∧ M.ready.2.kept = M.kept ∧ M.ready.2.changes = M.changes ∧ M.ready.2.room = M.room := by
  unfold MDisk.ready
  split
  · simp
  · split
    · split <;> simp
    · simp

theorem find_st (M : MDisk) (n : ByteArray) : (M.find n).2.2 = M.ready.2 := by
  unfold MDisk.find
  split
  · rfl
  · split <;> rfl

theorem find_cases (M : MDisk) (n : ByteArray) : (∃ e, e ≠ 0 ∧ M.find n = (e, none, M.ready.2)) ∨ ∃ i, M.find n = (0, some i, M.ready.2) ∧ findN n M.ready.2.now = some i := by
  unfold MDisk.find
  split
  · rename_i h
    exact .inl ⟨_, h, rfl⟩
  · split
    · exact .inl ⟨2, by decide, rfl⟩
    · rename_i i h
      exact .inr ⟨i, rfl, h⟩

def MDisk.total (M : MDisk) : Nat := ms (fun f => f.bytes.length) M.files

/-- It is no bigger than that. -/
structure MDisk.Fit (M : MDisk) (n : Nat) : Prop where
  left : M.left ≤ 9223372036854775807
  total : M.total ≤ n
  changes : M.changes.length ≤ n

namespace MDisk
theorem Fit.mono {M : MDisk} {n m : Nat} (h : M.Fit n) (hm : n ≤ m) : M.Fit m := ⟨h.left, Nat.le_trans h.total hm, Nat.le_trans h.changes hm⟩
theorem fit_new (room : Int) : (MDisk.new room).Fit 0 := ⟨Nat.zero_le _, Nat.le_refl _, Nat.le_refl _⟩
theorem Fit.ready {M : MDisk} {n : Nat} (h : M.Fit n) : M.ready.2.Fit n := by
  obtain ⟨h1, _, _, h4, _⟩ := ready_same M
  refine ⟨?_, by unfold MDisk.total; rw [h1]; exact h.total, by rw [h4]; exact h.changes⟩
  have := h.left
  unfold MDisk.ready
  split
  · exact this
  · split
    · split
      · exact this
      · show M.left - 1 ≤ _; omega
    · exact this
theorem Fit.chg {M : MDisk} {n : Nat} (h : M.Fit n) (c : MChange) : (M.chg c).Fit (n + 1) := ⟨h.left, Nat.le_succ_of_le h.total, by simp only [MDisk.chg, List.length_append, List.length_singleton]; have := h.changes; omega⟩

theorem ms_modify (k : Nat) (g : MFile → MFile) (hg : ∀ f, (g f).bytes.length ≤ f.bytes.length + k) : ∀ (l : List MFile) (i : Nat), ms (fun f => f.bytes.length) (l.modify i g) ≤ ms (fun f => f.bytes.length) l + k
  | [], i => by cases i <;> simp [ms]
  | f :: l, 0 => by
    have := hg f
    simp [ms]; omega
  | f :: l, i + 1 => by
    have := ms_modify k g hg l i
    simp [ms]; omega
theorem Fit.set {M : MDisk} {n : Nat} (h : M.Fit n) (i k : Nat) (g : MFile → MFile) (hg : ∀ f, (g f).bytes.length ≤ f.bytes.length + k) : (M.setFile i g).Fit (n + k) :=
  ⟨h.left, Nat.le_trans (ms_modify k g hg M.files i) (by have := h.total; unfold MDisk.total at this; omega), Nat.le_trans h.changes (by omega)⟩

theorem Fit.create {M : MDisk} {n : Nat} (h : M.Fit n) (s : ByteArray) : (M.create s).2.Fit (n + 1) := by
  unfold MDisk.create
  split
  · exact h.ready.mono (by omega)
  · split
    · exact h.ready.mono (by omega)
    · split
      · exact h.ready.mono (by omega)
      · refine Fit.chg (M := { M.ready.2 with files := M.ready.2.files ++ [MFile.mk [] 0] }) ⟨h.ready.left, ?_, h.ready.changes⟩ _
        have := h.ready.total
        unfold MDisk.total at *
        simp only [ms_append, ms_cons, ms_nil]
        simpa using this
theorem Fit.remove {M : MDisk} {n : Nat} (h : M.Fit n) (s : ByteArray) : (M.remove s).2.Fit (n + 1) := by
  unfold MDisk.remove
  rcases find_cases M s with ⟨e, _, hf⟩ | ⟨i, hf, _⟩
  · rw [hf]; exact h.ready.mono (by omega)
  · rw [hf]; exact h.ready.chg _
theorem Fit.rename {M : MDisk} {n : Nat} (h : M.Fit n) (s t : ByteArray) : (M.rename s t).2.Fit (n + 1) := by
  unfold MDisk.rename
  rcases find_cases M s with ⟨e, _, hf⟩ | ⟨i, hf, _⟩
  · rw [hf]; exact h.ready.mono (by omega)
  · rw [hf]
    dsimp only
    split
    · exact h.ready.mono (by omega)
    · exact h.ready.chg _
theorem Fit.append {M : MDisk} {n : Nat} (h : M.Fit n) (s : ByteArray) (b : List UInt8) : (M.append s b).2.Fit (n + b.length) := by
  unfold MDisk.append
  rcases find_cases M s with ⟨e, _, hf⟩ | ⟨i, hf, _⟩
  · rw [hf]; exact h.ready.mono (by omega)
  · rw [hf]
    dsimp only
    split
    · exact h.ready.mono (by omega)
    · exact h.ready.set _ _ _ fun f => by simp
theorem Fit.sync {M : MDisk} {n : Nat} (h : M.Fit n) (s : ByteArray) : (M.sync s).2.Fit n := by
  unfold MDisk.sync
  rcases find_cases M s with ⟨e, _, hf⟩ | ⟨i, hf, _⟩
  · rw [hf]; exact h.ready
  · rw [hf]; exact (h.ready.set i 0 _ fun f => by simp)
theorem Fit.syncNames {M : MDisk} {n : Nat} (h : M.Fit n) : M.syncNames.2.Fit n := by
  unfold MDisk.syncNames
  split
  · exact h.ready
  · exact ⟨h.ready.left, h.ready.total, Nat.zero_le _⟩
theorem read_st (M : MDisk) (s : ByteArray) : (M.read s).2.2 = M.ready.2 := by
  unfold MDisk.read
  rcases find_cases M s with ⟨e, _, hf⟩ | ⟨i, hf, _⟩ <;> rw [hf]
theorem Fit.read {M : MDisk} {n : Nat} (h : M.Fit n) (s : ByteArray) : (M.read s).2.2.Fit n := by
  rw [read_st]
  exact h.ready
theorem Fit.files {M : MDisk} {n : Nat} (h : M.Fit n) : ∀ f ∈ M.files, f.bytes.length ≤ n := fun f hf => Nat.le_trans (ms_pos (f := fun f : MFile => f.bytes.length) hf) h.total
end MDisk

/-! ### A run's writer -/
def rises (o : Option (List UInt8)) (x : List UInt8) : Bool := match o with
  | none => true
  | some l => decide (Lib.compareBytes l x < 0)

def way : ByteArray := ⟨#[116, 109, 112]⟩

structure MWr where
  ord : Option (List UInt8)
  many : Nat

def startM (M : MDisk) : Int × MDisk :=
  if (M.remove way).1 ≠ 0 ∧ (M.remove way).1 ≠ 2 then M.remove way else (M.remove way).2.create way

end Go.Proofs.Ytonjaaljnjjjcaa

/- A disk in plain Lean: what stays true of it whatever is done; names by lists. No program in sight. -/
set_option linter.unusedVariables false
set_option linter.unusedSimpArgs false
namespace Go.Proofs.Ytonjaaljnjjjcaa
open Go

/-- No name is empty. -/
def NoEmpty (nm : Names) : Prop := ∀ x ∈ nm, x.1 ≠ noName

theorem delN_mem {k : ByteArray} : ∀ {nm : Names} {x : ByteArray × Nat}, x ∈ delN k nm → x ∈ nm := fun h => (delN_sub _ _).subset h
theorem delN_none {k : ByteArray} : ∀ {nm : Names}, (∀ x ∈ nm, x.1 ≠ k) → delN k nm = nm
  | [], _ => rfl
  | x :: nm, h => by
    unfold delN
    rw [if_neg (h x List.mem_cons_self), delN_none fun y hy => h y (List.mem_cons_of_mem _ hy)]
theorem findN_none_of {k : ByteArray} : ∀ {nm : Names}, (∀ x ∈ nm, x.1 ≠ k) → findN k nm = none
  | [], _ => rfl
  | x :: nm, h => by
    unfold findN
    rw [if_neg (h x List.mem_cons_self), findN_none_of fun y hy => h y (List.mem_cons_of_mem _ hy)]

/-- A change fits names that it is done to. -/
def Fits (nm : Names) (c : MChange) : Prop :=
  (c.gone = noName ∧ c.new ≠ noName) ∨ (c.gone ≠ noName ∧ ∃ i, findN c.gone nm = some i ∧ (c.new ≠ noName → c.file = i))

/-- Each change fits the names ahead of it. -/
def FitsAll : Names → List MChange → Prop
  | _, [] => True
  | nm, c :: l => Fits nm c ∧ FitsAll (doN nm c) l

theorem fitsAll_append : ∀ {l : List MChange} {nm : Names} {c : MChange}, FitsAll nm l → Fits (l.foldl doN nm) c → FitsAll nm (l ++ [c])
  | [], _, _, _, h => ⟨h, trivial⟩
  | x :: l, nm, c, h, hc => ⟨h.1, fitsAll_append (l := l) h.2 hc⟩

theorem doN_noEmpty {nm : Names} (h : NoEmpty nm) (c : MChange) : NoEmpty (doN nm c) := by
  unfold doN
  split
  · exact fun x hx => h x (delN_mem hx)
  · rename_i hn
    intro x hx
    rcases (insN_mem _ _ _ _).1 hx with rfl | hx
    · exact hn
    · exact h x (delN_mem (delN_mem hx))

/-- Whose numbers are below n. -/
def Below_ (n : Nat) (nm : Names) : Prop := ∀ x ∈ nm, x.2 < n
theorem doN_below {n : Nat} {nm : Names} (h : Below_ n nm) {c : MChange} (hc : c.new ≠ noName → c.file < n) : Below_ n (doN nm c) := by
  unfold doN
  split
  · exact fun x hx => h x (delN_mem hx)
  · rename_i hn
    intro x hx
    rcases (insN_mem _ _ _ _).1 hx with rfl | hx
    · exact hc hn
    · exact h x (delN_mem (delN_mem hx))

theorem foldl_sorted : ∀ (l : List MChange) {nm : Names}, SortedN nm → SortedN (l.foldl doN nm)
  | [], _, h => h
  | c :: l, _, h => foldl_sorted l (doN_sorted h c)
theorem foldl_noEmpty : ∀ (l : List MChange) {nm : Names}, NoEmpty nm → NoEmpty (l.foldl doN nm)
  | [], _, h => h
  | c :: l, _, h => foldl_noEmpty l (doN_noEmpty h c)
theorem foldl_below {n : Nat} : ∀ (l : List MChange) {nm : Names}, Below_ n nm → (∀ c ∈ l, c.new ≠ noName → c.file < n) → Below_ n (l.foldl doN nm)
  | [], _, h, _ => h
  | c :: l, _, h, hc => foldl_below l (doN_below h (hc c List.mem_cons_self)) fun c' hc' => hc c' (List.mem_cons_of_mem _ hc')

/-- What stays true of a disk. -/
structure MDisk.Good (M : MDisk) : Prop where
  sortK : SortedN M.kept
  empty : NoEmpty M.kept
  fits : FitsAll M.kept M.changes
  now : M.now = M.changes.foldl doN M.kept
  keptB : Below_ M.files.length M.kept
  chB : ∀ c ∈ M.changes, c.new ≠ noName → c.file < M.files.length
  keptF : ∀ f ∈ M.files, f.kept ≤ f.bytes.length

namespace MDisk
theorem Good.sortN {M : MDisk} (h : M.Good) : SortedN M.now := by rw [h.now]; exact foldl_sorted _ h.sortK
theorem Good.emptyN {M : MDisk} (h : M.Good) : NoEmpty M.now := by rw [h.now]; exact foldl_noEmpty _ h.empty
theorem Good.nowB {M : MDisk} (h : M.Good) : Below_ M.files.length M.now := by rw [h.now]; exact foldl_below _ h.keptB h.chB

theorem Good.same {M M' : MDisk} (h : M.Good) (h1 : M'.files = M.files) (h2 : M'.now = M.now) (h3 : M'.kept = M.kept) (h4 : M'.changes = M.changes) : M'.Good :=
  ⟨h3 ▸ h.sortK, h3 ▸ h.empty, by rw [h3, h4]; exact h.fits, by rw [h2, h3, h4]; exact h.now, by rw [h1, h3]; exact h.keptB, by rw [h1, h4]; exact h.chB, by rw [h1]; exact h.keptF⟩

theorem good_new (room : Int) : (MDisk.new room).Good :=
  ⟨List.Pairwise.nil, (fun x hx => by cases hx), trivial, rfl, (fun x hx => by cases hx), (fun x hx => by cases hx), (fun x hx => by cases hx)⟩

theorem Good.ready {M : MDisk} (h : M.Good) : M.ready.2.Good := by
  obtain ⟨h1, h2, h3, h4, _⟩ := ready_same M
  exact h.same h1 h2 h3 h4

theorem Good.chg {M : MDisk} (h : M.Good) {c : MChange} (hf : Fits M.now c) (hc : c.new ≠ noName → c.file < M.files.length) : (M.chg c).Good :=
  ⟨h.sortK, h.empty, fitsAll_append h.fits (by show Fits (M.changes.foldl doN M.kept) c; rw [← h.now]; exact hf), by
    show doN M.now c = (M.changes ++ [c]).foldl doN M.kept
    rw [List.foldl_append, ← h.now]
    rfl, h.keptB, fun x hx => by
    rcases List.mem_append.1 hx with hx | hx
    · exact h.chB x hx
    · rw [List.mem_singleton] at hx
      subst hx
      exact hc, h.keptF⟩

theorem Good.grown {M : MDisk} (h : M.Good) : ({ M with files := M.files ++ [MFile.mk [] 0] } : MDisk).Good :=
  ⟨h.sortK, h.empty, h.fits, h.now, fun x hx => by have := h.keptB x hx; simp; omega, fun c hc hn => by have := h.chB c hc hn; simp; omega, fun f hf => by
    rcases List.mem_append.1 hf with hf | hf
    · exact h.keptF f hf
    · rw [List.mem_singleton] at hf
      subst hf
      exact Nat.le_refl _⟩

theorem Good.set {M : MDisk} (h : M.Good) (i : Nat) (g : MFile → MFile) (hg : ∀ f, f.kept ≤ f.bytes.length → (g f).kept ≤ (g f).bytes.length) : (M.setFile i g).Good :=
  ⟨h.sortK, h.empty, h.fits, h.now, fun x hx => by have := h.keptB x hx; simpa [setFile] using this, fun c hc hn => by have := h.chB c hc hn; simpa [setFile] using this, by
    have key : ∀ (l : List MFile) (i : Nat), (∀ f ∈ l, f.kept ≤ f.bytes.length) → ∀ f ∈ l.modify i g, f.kept ≤ f.bytes.length := by
      intro l
      induction l with
      | nil => intro i _ f hf; cases i <;> simp at hf
      | cons x l ih =>
        intro i hl f hf
        cases i with
        | zero =>
          simp at hf
          rcases hf with rfl | hf
          · exact hg x (hl x List.mem_cons_self)
          · exact hl f (List.mem_cons_of_mem _ hf)
        | succ i =>
          simp at hf
          rcases hf with rfl | hf
          · exact hl _ List.mem_cons_self
          · exact ih i (fun y hy => hl y (List.mem_cons_of_mem _ hy)) f hf
    exact key M.files i h.keptF⟩

theorem right_ne {n : ByteArray} (h : right n = true) : n ≠ noName := by
  intro e
  subst e
  exact absurd h (by decide)

theorem Good.create {M : MDisk} (h : M.Good) (n : ByteArray) : (M.create n).2.Good := by
  unfold MDisk.create
  split
  · exact h.ready
  · split
    · exact h.ready
    · rename_i hr
      have hr : right n = true := by simpa using hr
      split
      · exact h.ready
      · refine Good.chg (M := { M.ready.2 with files := M.ready.2.files ++ [MFile.mk [] 0] }) h.ready.grown (.inl ⟨rfl, right_ne hr⟩) fun _ => ?_
        simp
theorem Good.remove {M : MDisk} (h : M.Good) (n : ByteArray) : (M.remove n).2.Good := by
  unfold MDisk.remove
  rcases find_cases M n with ⟨e, _, hf⟩ | ⟨i, hf, hi⟩
  · rw [hf]; exact h.ready
  · rw [hf]
    have hne : n ≠ noName := h.ready.emptyN _ (mem_of_findN hi)
    exact h.ready.chg (.inr ⟨hne, i, hi, fun hn => absurd rfl hn⟩) fun hn => absurd rfl hn
theorem Good.rename {M : MDisk} (h : M.Good) (a b : ByteArray) : (M.rename a b).2.Good := by
  unfold MDisk.rename
  rcases find_cases M a with ⟨e, _, hf⟩ | ⟨i, hf, hi⟩
  · rw [hf]; exact h.ready
  · rw [hf]
    dsimp only
    split
    · exact h.ready
    · have hm := mem_of_findN hi
      exact h.ready.chg (.inr ⟨h.ready.emptyN _ hm, i, hi, fun _ => rfl⟩) fun _ => h.ready.nowB _ hm
theorem Good.append {M : MDisk} (h : M.Good) (n : ByteArray) (b : List UInt8) : (M.append n b).2.Good := by
  unfold MDisk.append
  rcases find_cases M n with ⟨e, _, hf⟩ | ⟨i, hf, _⟩
  · rw [hf]; exact h.ready
  · rw [hf]
    dsimp only
    split
    · exact h.ready
    · exact h.ready.set _ _ fun f hf => by simp; omega
theorem Good.sync {M : MDisk} (h : M.Good) (n : ByteArray) : (M.sync n).2.Good := by
  unfold MDisk.sync
  rcases find_cases M n with ⟨e, _, hf⟩ | ⟨i, hf, _⟩
  · rw [hf]; exact h.ready
  · rw [hf]; exact h.ready.set _ _ fun f hf => Nat.le_refl _
theorem Good.read {M : MDisk} (h : M.Good) (n : ByteArray) : (M.read n).2.2.Good := by
  rw [read_st]
  exact h.ready
theorem Good.syncNames {M : MDisk} (h : M.Good) : M.syncNames.2.Good := by
  unfold MDisk.syncNames
  split
  · exact h.ready
  · exact ⟨h.ready.sortN, h.ready.emptyN, trivial, rfl, h.ready.nowB, (fun c hc => by cases hc), h.ready.keptF⟩
theorem names_st (M : MDisk) : M.names.2.2 = M.ready.2 := by
  unfold MDisk.names
  split <;> rfl
theorem Good.names {M : MDisk} (h : M.Good) : M.names.2.2.Good := by
  rw [names_st]
  exact h.ready
theorem Good.doom {M : MDisk} (h : M.Good) (n : Int) : (M.doom n).2.Good := by
  unfold MDisk.doom
  split
  · exact h
  · exact h.same rfl rfl rfl rfl
theorem Good.grow {M : MDisk} (h : M.Good) (n : Int) : (M.grow n).2.Good := by
  unfold MDisk.grow
  split
  · exact h
  · exact h.same rfl rfl rfl rfl

/-! ### A crash -/
/-- The names that are left. -/
def left_ (M : MDisk) (names : Int) : Names := (M.changes.take names.toNat).foldl doN M.kept
theorem Good.leftS {M : MDisk} (h : M.Good) (n : Int) : SortedN (M.left_ n) := foldl_sorted _ h.sortK
theorem Good.leftE {M : MDisk} (h : M.Good) (n : Int) : NoEmpty (M.left_ n) := foldl_noEmpty _ h.empty
theorem Good.leftB {M : MDisk} (h : M.Good) (n : Int) : Below_ M.files.length (M.left_ n) := foldl_below _ h.keptB fun c hc => h.chB c (List.mem_of_mem_take hc)

theorem numbered_fst : ∀ (nm : Names) (i : Nat), (numbered i nm).map (·.1) = nm.map (·.1)
  | [], _ => rfl
  | x :: nm, i => by simp [numbered, numbered_fst nm (i + 1)]
theorem numbered_get : ∀ (nm : Names) (i j : Nat) (x : ByteArray × Nat), (numbered i nm)[j]? = some x → x.2 = i + j ∧ ∃ y, nm[j]? = some y ∧ y.1 = x.1
  | [], i, j, x, h => by simp [numbered] at h
  | y :: nm, i, 0, x, h => by
    simp [numbered] at h
    subst h
    exact ⟨rfl, y, rfl, rfl⟩
  | y :: nm, i, j + 1, x, h => by
    obtain ⟨h1, h2⟩ := numbered_get nm (i + 1) j x (by simpa [numbered] using h)
    exact ⟨by omega, by simpa using h2⟩
theorem numbered_len (nm : Names) (i : Nat) : (numbered i nm).length = nm.length := by
  have := congrArg List.length (numbered_fst nm i)
  simpa using this
theorem numbered_sorted {nm : Names} (h : SortedN nm) (i : Nat) : SortedN (numbered i nm) := by
  have h1 : (nm.map (·.1)).Pairwise nlt := List.pairwise_map.2 h
  rw [← numbered_fst nm i] at h1
  exact List.pairwise_map.1 h1
theorem crashed_len (M : MDisk) (ns : List Int) : ∀ (nm : Names) (i : Nat), (M.crashed ns i nm).length = nm.length
  | [], _ => rfl
  | x :: nm, i => by simp [crashed, crashed_len M ns nm (i + 1)]
theorem leftOf_le (ns : List Int) (i most : Nat) : leftOf ns i most ≤ most := by
  unfold leftOf
  split
  · exact Nat.zero_le _
  · exact Nat.min_le_right _ _
theorem Good.fileAt {M : MDisk} (h : M.Good) (i : Nat) : (M.fileAt i).kept ≤ (M.fileAt i).bytes.length := by
  unfold MDisk.fileAt
  rw [List.getD_eq_getElem?_getD]
  cases hf : M.files[i]? with
  | none => exact Nat.le_refl _
  | some f => exact h.keptF f (List.mem_of_getElem? hf)
theorem Good.crashed {M : MDisk} (h : M.Good) (ns : List Int) : ∀ (nm : Names) (i : Nat), ∀ f ∈ M.crashed ns i nm, f.kept ≤ f.bytes.length
  | [], _, f, hf => by cases hf
  | x :: nm, i, f, hf => by
    unfold MDisk.crashed at hf
    rcases List.mem_cons.1 hf with rfl | hf
    · have h1 := h.fileAt x.2
      have h2 := leftOf_le ns i ((M.fileAt x.2).bytes.length - (M.fileAt x.2).kept)
      simp only [List.length_take]
      omega
    · exact h.crashed ns nm (i + 1) f hf
theorem Good.crash {M : MDisk} (h : M.Good) (n : Int) (ns : List Int) : (M.crash n ns).Good := by
  have hb : Below_ (M.crashed ns 0 (M.left_ n)).length (numbered 0 (M.left_ n)) := fun x hx => by
    obtain ⟨j, hj⟩ := List.getElem?_of_mem hx
    obtain ⟨h1, y, h2, _⟩ := numbered_get _ _ _ _ hj
    rw [crashed_len, h1]
    have := (List.getElem?_eq_some_iff.1 h2).1
    omega
  have he : NoEmpty (numbered 0 (M.left_ n)) := fun x hx => by
    obtain ⟨j, hj⟩ := List.getElem?_of_mem hx
    obtain ⟨_, y, h2, h3⟩ := numbered_get _ _ _ _ hj
    rw [← h3]
    exact h.leftE n y (List.mem_of_getElem? h2)
  exact ⟨numbered_sorted (h.leftS n) 0, he, trivial, rfl, hb, (fun c hc => by cases hc), h.crashed ns _ 0⟩
end MDisk

/-! ### How big it gets -/
/-- It has no more names, files and changes than n, none of its files is longer than b. -/
structure MDisk.Small (M : MDisk) (n b : Nat) : Prop where
  left : M.left ≤ 9223372036854775807
  names : M.kept.length + M.changes.length ≤ n
  files : M.files.length ≤ n
  each : ∀ f ∈ M.files, f.bytes.length ≤ b

theorem insN_len (k : ByteArray) (f : Nat) : ∀ nm : Names, (insN k f nm).length = nm.length + 1
  | [] => rfl
  | x :: nm => by
    unfold insN
    split
    · rfl
    · simp [insN_len k f nm]
theorem delN_len (k : ByteArray) (nm : Names) : (delN k nm).length ≤ nm.length := (delN_sub k nm).length_le
theorem doN_len (nm : Names) (c : MChange) : (doN nm c).length ≤ nm.length + 1 := by
  unfold doN
  split
  · have := delN_len c.gone nm; omega
  · rw [insN_len]
    have h1 := delN_len c.gone nm
    have h2 := delN_len c.new (delN c.gone nm)
    omega
theorem foldl_len : ∀ (l : List MChange) (nm : Names), (l.foldl doN nm).length ≤ nm.length + l.length
  | [], _ => Nat.le_refl _
  | c :: l, nm => by
    have h1 := foldl_len l (doN nm c)
    have h2 := doN_len nm c
    rw [List.foldl_cons, List.length_cons]
    omega

theorem ms_le {f : MFile → Nat} {b : Nat} : ∀ l : List MFile, (∀ x ∈ l, f x ≤ b) → ms f l ≤ l.length * b
  | [], _ => by simp [ms]
  | x :: l, h => by
    have h1 := h x List.mem_cons_self
    have h2 := ms_le l fun y hy => h y (List.mem_cons_of_mem _ hy)
    rw [List.length_cons, Nat.succ_mul]
    simp only [ms]
    omega

namespace MDisk
theorem Small.total {M : MDisk} {n b : Nat} (h : M.Small n b) : M.total ≤ n * b := Nat.le_trans (ms_le M.files h.each) (Nat.mul_le_mul_right _ h.files)
theorem Small.mono {M : MDisk} {n b n' b' : Nat} (h : M.Small n b) (h1 : n ≤ n') (h2 : b ≤ b') : M.Small n' b' := ⟨h.left, Nat.le_trans h.names h1, Nat.le_trans h.files h1, fun f hf => Nat.le_trans (h.each f hf) h2⟩
theorem small_new (room : Int) : (MDisk.new room).Small 0 0 := ⟨Nat.zero_le _, Nat.le_refl _, Nat.le_refl _, by simp [MDisk.new]⟩
theorem Small.ready {M : MDisk} {n b : Nat} (h : M.Small n b) : M.ready.2.Small n b := by
  obtain ⟨h1, _, h3, h4, _⟩ := ready_same M
  refine ⟨?_, by rw [h3, h4]; exact h.names, by rw [h1]; exact h.files, by rw [h1]; exact h.each⟩
  have := h.left
  unfold MDisk.ready
  split
  · exact this
  · split
    · split
      · exact this
      · show M.left - 1 ≤ _; omega
    · exact this
theorem Small.chg {M : MDisk} {n b : Nat} (h : M.Small n b) (c : MChange) : (M.chg c).Small (n + 1) b :=
  ⟨h.left, by have := h.names; simp [MDisk.chg]; omega, Nat.le_trans h.files (by omega), h.each⟩
theorem Small.create {M : MDisk} {n b : Nat} (h : M.Small n b) (s : ByteArray) : (M.create s).2.Small (n + 1) b := by
  unfold MDisk.create
  split
  · exact h.ready.mono (by omega) (Nat.le_refl _)
  · split
    · exact h.ready.mono (by omega) (Nat.le_refl _)
    · split
      · exact h.ready.mono (by omega) (Nat.le_refl _)
      · refine ⟨h.ready.left, by have := h.ready.names; simp [MDisk.chg]; omega, by have := h.ready.files; simp [MDisk.chg]; omega, fun f hf => ?_⟩
        have hf : f ∈ M.ready.2.files ++ [MFile.mk [] 0] := hf
        rcases List.mem_append.1 hf with hf | hf
        · exact h.ready.each f hf
        · rw [List.mem_singleton] at hf
          subst hf
          exact Nat.zero_le _
theorem Small.remove {M : MDisk} {n b : Nat} (h : M.Small n b) (s : ByteArray) : (M.remove s).2.Small (n + 1) b := by
  unfold MDisk.remove
  rcases find_cases M s with ⟨e, _, hf⟩ | ⟨i, hf, _⟩
  · rw [hf]; exact h.ready.mono (by omega) (Nat.le_refl _)
  · rw [hf]; exact h.ready.chg _
theorem Small.rename {M : MDisk} {n b : Nat} (h : M.Small n b) (s t : ByteArray) : (M.rename s t).2.Small (n + 1) b := by
  unfold MDisk.rename
  rcases find_cases M s with ⟨e, _, hf⟩ | ⟨i, hf, _⟩
  · rw [hf]; exact h.ready.mono (by omega) (Nat.le_refl _)
  · rw [hf]
    dsimp only
    split
    · exact h.ready.mono (by omega) (Nat.le_refl _)
    · exact h.ready.chg _
theorem Small.set {M : MDisk} {n b k : Nat} (h : M.Small n b) (i : Nat) (g : MFile → MFile) (hg : ∀ f, (g f).bytes.length ≤ f.bytes.length + k) : (M.setFile i g).Small n (b + k) :=
  ⟨h.left, h.names, by simpa [setFile] using h.files, by
    have key : ∀ (l : List MFile) (i : Nat), (∀ f ∈ l, f.bytes.length ≤ b) → ∀ f ∈ l.modify i g, f.bytes.length ≤ b + k := by
      intro l
      induction l with
      | nil => intro i _ f hf; cases i <;> simp at hf
      | cons x l ih =>
        intro i hl f hf
        cases i with
        | zero =>
          simp at hf
          rcases hf with rfl | hf
          · have h1 := hg x
            have h2 := hl x List.mem_cons_self
            omega
          · have := hl f (List.mem_cons_of_mem _ hf)
            omega
        | succ i =>
          simp at hf
          rcases hf with rfl | hf
          · have := hl _ List.mem_cons_self
            omega
          · exact ih i (fun y hy => hl y (List.mem_cons_of_mem _ hy)) f hf
    exact key M.files i h.each⟩
theorem Small.append {M : MDisk} {n b : Nat} (h : M.Small n b) (s : ByteArray) (c : List UInt8) : (M.append s c).2.Small n (b + c.length) := by
  unfold MDisk.append
  rcases find_cases M s with ⟨e, _, hf⟩ | ⟨i, hf, _⟩
  · rw [hf]; exact h.ready.mono (Nat.le_refl _) (by omega)
  · rw [hf]
    dsimp only
    split
    · exact h.ready.mono (Nat.le_refl _) (by omega)
    · exact h.ready.set _ _ fun f => by simp
theorem Small.sync {M : MDisk} {n b : Nat} (h : M.Small n b) (s : ByteArray) : (M.sync s).2.Small n b := by
  unfold MDisk.sync
  rcases find_cases M s with ⟨e, _, hf⟩ | ⟨i, hf, _⟩
  · rw [hf]; exact h.ready
  · rw [hf]; exact h.ready.set (k := 0) i _ fun f => by simp
theorem Small.read {M : MDisk} {n b : Nat} (h : M.Small n b) (s : ByteArray) : (M.read s).2.2.Small n b := by
  rw [read_st]
  exact h.ready
theorem Small.names' {M : MDisk} {n b : Nat} (h : M.Small n b) : M.names.2.2.Small n b := by
  rw [names_st]
  exact h.ready
theorem Small.syncNames {M : MDisk} {n b : Nat} (h : M.Small n b) (hg : M.Good) : M.syncNames.2.Small n b := by
  unfold MDisk.syncNames
  split
  · exact h.ready
  · refine ⟨h.ready.left, ?_, h.ready.files, h.ready.each⟩
    have h1 := foldl_len M.ready.2.changes M.ready.2.kept
    rw [← hg.ready.now] at h1
    have := h.ready.names
    simp only [List.length_nil]
    omega
theorem Small.doom {M : MDisk} {n b : Nat} (h : M.Small n b) {k : Int} (hk : k ≤ 9223372036854775807) : (M.doom k).2.Small n b := by
  unfold MDisk.doom
  split
  · exact h
  · exact ⟨by show k.toNat ≤ _; omega, h.names, h.files, h.each⟩
theorem Small.grow {M : MDisk} {n b : Nat} (h : M.Small n b) (k : Int) : (M.grow k).2.Small n b := by
  unfold MDisk.grow
  split
  · exact h
  · exact ⟨h.left, h.names, h.files, h.each⟩
theorem crashed_each {M : MDisk} {n b : Nat} (h : M.Small n b) (ns : List Int) : ∀ (nm : Names) (i : Nat), ∀ f ∈ M.crashed ns i nm, f.bytes.length ≤ b
  | [], _, f, hf => by cases hf
  | x :: nm, i, f, hf => by
    unfold MDisk.crashed at hf
    rcases List.mem_cons.1 hf with rfl | hf
    · simp only [List.length_take]
      have : (M.fileAt x.2).bytes.length ≤ b := by
        unfold MDisk.fileAt
        rw [List.getD_eq_getElem?_getD]
        cases hf : M.files[x.2]? with
        | none => exact Nat.zero_le _
        | some f => exact h.each f (List.mem_of_getElem? hf)
      omega
    · exact crashed_each h ns nm (i + 1) f hf
theorem left_len (M : MDisk) (k : Int) : (M.left_ k).length ≤ M.kept.length + M.changes.length := by
  have h1 := foldl_len (M.changes.take k.toNat) M.kept
  have h2 : (M.changes.take k.toNat).length ≤ M.changes.length := by rw [List.length_take]; omega
  unfold left_
  omega
theorem Small.crash {M : MDisk} {n b : Nat} (h : M.Small n b) (k : Int) (ns : List Int) : (M.crash k ns).Small n b := by
  have hl := left_len M k
  have hn := h.names
  refine ⟨Nat.zero_le _, ?_, ?_, crashed_each h ns _ 0⟩
  · show (numbered 0 (M.left_ k)).length + 0 ≤ n
    rw [numbered_len]
    omega
  · show (M.crashed ns 0 (M.left_ k)).length ≤ n
    rw [crashed_len]
    omega
end MDisk

end Go.Proofs.Ytonjaaljnjjjcaa

/- A disk in plain Lean, its files in another order, but those that nobody can reach: what it tells. No program in sight. -/
set_option linter.unusedVariables false
set_option linter.unusedSimpArgs false
namespace Go.Proofs.Ytonjaaljnjjjcaa
open Go

def ren (ord : List Nat) (x : ByteArray × Nat) : ByteArray × Nat := (x.1, ord.idxOf x.2)
def renC (ord : List Nat) (c : MChange) : MChange := ⟨c.gone, c.new, if c.new = noName then c.file else ord.idxOf c.file⟩
def MDisk.renum (M : MDisk) (ord : List Nat) : MDisk := { M with files := ord.map M.fileAt, now := M.now.map (ren ord), kept := M.kept.map (ren ord), changes := M.changes.map (renC ord) }

/-- What can be reached is among these. -/
structure Covers (M : MDisk) (ord : List Nat) : Prop where
  nodup : ord.Nodup
  lt : ∀ i ∈ ord, i < M.files.length
  now : ∀ x ∈ M.now, x.2 ∈ ord
  kept : ∀ x ∈ M.kept, x.2 ∈ ord
  chs : ∀ c ∈ M.changes, c.new ≠ noName → c.file ∈ ord

theorem findN_ren (ord : List Nat) (k : ByteArray) : ∀ nm : Names, findN k (nm.map (ren ord)) = (findN k nm).map ord.idxOf
  | [] => rfl
  | x :: nm => by
    rw [List.map_cons]
    unfold findN
    rw [findN_ren ord k nm]
    show (if x.1 = k then _ else _) = _
    split <;> rfl
theorem delN_ren (ord : List Nat) (k : ByteArray) : ∀ nm : Names, delN k (nm.map (ren ord)) = (delN k nm).map (ren ord)
  | [] => rfl
  | x :: nm => by
    rw [List.map_cons]
    unfold delN
    rw [delN_ren ord k nm]
    show (if x.1 = k then _ else _) = _
    split <;> rfl
theorem insN_ren (ord : List Nat) (k : ByteArray) (f : Nat) : ∀ nm : Names, insN k (ord.idxOf f) (nm.map (ren ord)) = (insN k f nm).map (ren ord)
  | [] => rfl
  | x :: nm => by
    rw [List.map_cons]
    unfold insN
    rw [insN_ren ord k f nm]
    show (if nlt k x.1 then _ else _) = _
    split <;> rfl
theorem doN_ren (ord : List Nat) (nm : Names) (c : MChange) : doN (nm.map (ren ord)) (renC ord c) = (doN nm c).map (ren ord) := by
  unfold doN renC
  by_cases h : c.new = noName
  · simp only [h, if_true, delN_ren]
  · simp only [h, if_false, delN_ren, insN_ren]
theorem foldl_ren (ord : List Nat) : ∀ (l : List MChange) (nm : Names), (l.map (renC ord)).foldl doN (nm.map (ren ord)) = (l.foldl doN nm).map (ren ord)
  | [], _ => rfl
  | c :: l, nm => by
    rw [List.map_cons, List.foldl_cons, List.foldl_cons, doN_ren, foldl_ren ord l]
theorem numbered_ren (ord : List Nat) : ∀ (nm : Names) (i : Nat), MDisk.numbered i (nm.map (ren ord)) = MDisk.numbered i nm
  | [], _ => rfl
  | x :: nm, i => by
    rw [List.map_cons]
    unfold MDisk.numbered
    rw [numbered_ren ord nm (i + 1)]
    rfl

theorem doN_P {P : Nat → Prop} {nm : Names} (h : ∀ x ∈ nm, P x.2) {c : MChange} (hc : c.new ≠ noName → P c.file) : ∀ x ∈ doN nm c, P x.2 := by
  unfold doN
  split
  · exact fun x hx => h x (delN_mem hx)
  · rename_i hn
    intro x hx
    rcases (insN_mem _ _ _ _).1 hx with rfl | hx
    · exact hc hn
    · exact h x (delN_mem (delN_mem hx))
theorem foldl_P {P : Nat → Prop} : ∀ (l : List MChange) {nm : Names}, (∀ x ∈ nm, P x.2) → (∀ c ∈ l, c.new ≠ noName → P c.file) → ∀ x ∈ l.foldl doN nm, P x.2
  | [], _, h, _ => h
  | c :: l, _, h, hc => foldl_P l (doN_P h (hc c List.mem_cons_self)) fun c' hc' => hc c' (List.mem_cons_of_mem _ hc')

theorem fileAt_ren {M : MDisk} {ord : List Nat} {i : Nat} (h : i ∈ ord) : (M.renum ord).fileAt (ord.idxOf i) = M.fileAt i := by
  have hl := List.idxOf_lt_length_iff.2 h
  show (ord.map M.fileAt).getD (ord.idxOf i) ⟨[], 0⟩ = _
  rw [List.getD_eq_getElem?_getD, List.getElem?_map, List.getElem?_eq_getElem hl, List.getElem_idxOf]
  rfl

theorem crashed_ren {M : MDisk} {ord : List Nat} (ns : List Int) : ∀ (nm : Names) (i : Nat), (∀ x ∈ nm, x.2 ∈ ord) → (M.renum ord).crashed ns i (nm.map (ren ord)) = M.crashed ns i nm
  | [], _, _ => rfl
  | x :: nm, i, h => by
    rw [List.map_cons]
    unfold MDisk.crashed
    rw [crashed_ren ns nm (i + 1) fun y hy => h y (List.mem_cons_of_mem _ hy)]
    have e : (M.renum ord).fileAt (ren ord x).2 = M.fileAt x.2 := fileAt_ren (h x List.mem_cons_self)
    rw [e]

theorem left_ren (M : MDisk) (ord : List Nat) (k : Int) : (M.renum ord).left_ k = (M.left_ k).map (ren ord) := by
  show ((M.changes.map (renC ord)).take k.toNat).foldl doN (M.kept.map (ren ord)) = _
  rw [← List.map_take, foldl_ren]
  rfl

/-- A crash levels them. -/
theorem crash_ren {M : MDisk} {ord : List Nat} (h : Covers M ord) (k : Int) (ns : List Int) : (M.renum ord).crash k ns = M.crash k ns := by
  have hP : ∀ x ∈ M.left_ k, x.2 ∈ ord := foldl_P _ h.kept fun c hc => h.chs c (List.mem_of_mem_take hc)
  have h1 : (M.renum ord).crash k ns = ⟨(M.renum ord).crashed ns 0 ((M.renum ord).left_ k), MDisk.numbered 0 ((M.renum ord).left_ k), MDisk.numbered 0 ((M.renum ord).left_ k), [], M.room, false, false, 0⟩ := rfl
  rw [h1, left_ren, crashed_ren ns _ 0 hP, numbered_ren]
  rfl

theorem ready_ren (M : MDisk) (ord : List Nat) : (M.renum ord).ready = (M.ready.1, M.ready.2.renum ord) := by
  unfold MDisk.ready
  show (if M.down then _ else if M.doomed then (if M.left = 0 then _ else _) else _) = _
  split
  · rfl
  · split
    · split <;> rfl
    · rfl
theorem covers_ready {M : MDisk} {ord : List Nat} (h : Covers M ord) : Covers M.ready.2 ord := by
  obtain ⟨h1, h2, h3, h4, _⟩ := ready_same M
  exact ⟨h.nodup, h1 ▸ h.lt, h2 ▸ h.now, h3 ▸ h.kept, h4 ▸ h.chs⟩

theorem names_ren (M : MDisk) (ord : List Nat) : (M.renum ord).names.1 = M.names.1 ∧ (M.renum ord).names.2.1 = M.names.2.1 ∧ (M.renum ord).names.2.2 = M.names.2.2.renum ord := by
  rw [MDisk.names_st, MDisk.names_st]
  unfold MDisk.names
  rw [ready_ren]
  split
  · exact ⟨rfl, rfl, rfl⟩
  · refine ⟨rfl, ?_, rfl⟩
    show (M.ready.2.now.map (ren ord)).map (·.1) = M.ready.2.now.map (·.1)
    rw [List.map_map]
    rfl
theorem read_ren {M : MDisk} {ord : List Nat} (h : Covers M ord) (n : ByteArray) : ((M.renum ord).read n).1 = (M.read n).1 ∧ ((M.renum ord).read n).2.1 = (M.read n).2.1 ∧ ((M.renum ord).read n).2.2 = (M.read n).2.2.renum ord := by
  have hc := covers_ready h
  rw [MDisk.read_st, MDisk.read_st]
  unfold MDisk.read MDisk.find
  rw [ready_ren]
  by_cases h0 : M.ready.1 ≠ 0
  · rw [if_pos h0, if_pos h0]
    exact ⟨rfl, rfl, rfl⟩
  · rw [if_neg h0, if_neg h0]
    have hf : findN n (M.ready.2.renum ord).now = (findN n M.ready.2.now).map ord.idxOf := findN_ren ord n M.ready.2.now
    dsimp only
    rw [hf]
    cases hn : findN n M.ready.2.now with
    | none => exact ⟨rfl, rfl, rfl⟩
    | some i =>
      refine ⟨rfl, ?_, rfl⟩
      show ((M.ready.2.renum ord).fileAt (ord.idxOf i)).bytes = (M.ready.2.fileAt i).bytes
      rw [fileAt_ren (hc.now _ (mem_of_findN hn))]

theorem fits_ren {ord : List Nat} {nm : Names} {c : MChange} (h : Fits nm c) : Fits (nm.map (ren ord)) (renC ord c) := by
  rcases h with h | ⟨h, i, hi, hf⟩
  · exact .inl h
  · refine .inr ⟨h, ord.idxOf i, by show findN c.gone _ = _; rw [findN_ren, hi]; rfl, fun hn => ?_⟩
    have hn : c.new ≠ noName := hn
    show (if c.new = noName then c.file else ord.idxOf c.file) = _
    rw [if_neg hn, hf hn]
theorem fitsAll_ren {ord : List Nat} : ∀ {l : List MChange} {nm : Names}, FitsAll nm l → FitsAll (nm.map (ren ord)) (l.map (renC ord))
  | [], _, _ => trivial
  | c :: l, nm, h => ⟨fits_ren h.1, by rw [doN_ren]; exact fitsAll_ren h.2⟩
theorem sorted_ren {ord : List Nat} {nm : Names} (h : SortedN nm) : SortedN (nm.map (ren ord)) := List.pairwise_map.2 h

theorem covers_len {M : MDisk} {ord : List Nat} (h : Covers M ord) : ord.length ≤ M.files.length := by
  have hp : ord.Perm ((List.range M.files.length).filter fun b => decide (b ∈ ord)) := by
    rw [List.perm_ext_iff_of_nodup h.nodup (List.nodup_range.filter _)]
    intro b
    rw [List.mem_filter]
    constructor
    · intro hb
      exact ⟨List.mem_range.2 (h.lt b hb), by simpa using hb⟩
    · rintro ⟨_, hb⟩
      simpa using hb
  have := hp.length_eq
  have h2 := List.length_filter_le (fun b => decide (b ∈ ord)) (List.range M.files.length)
  rw [List.length_range] at h2
  omega

theorem file_ren {M : MDisk} {ord : List Nat} (h : Covers M ord) {f : MFile} (hf : f ∈ (M.renum ord).files) : f ∈ M.files := by
  obtain ⟨i, hi, rfl⟩ := List.mem_map.1 hf
  have := h.lt i hi
  unfold MDisk.fileAt
  rw [List.getD_eq_getElem?_getD, List.getElem?_eq_getElem this]
  exact List.getElem_mem this

theorem good_ren {M : MDisk} {ord : List Nat} (hg : M.Good) (h : Covers M ord) : (M.renum ord).Good := by
  have hlen : (M.renum ord).files.length = ord.length := List.length_map _
  refine ⟨sorted_ren hg.sortK, fun x hx => ?_, fitsAll_ren hg.fits, ?_, fun x hx => ?_, fun c hc hn => ?_, fun f hf => hg.keptF f (file_ren h hf)⟩
  · obtain ⟨y, hy, rfl⟩ := List.mem_map.1 hx
    exact hg.empty y hy
  · show M.now.map (ren ord) = (M.changes.map (renC ord)).foldl doN (M.kept.map (ren ord))
    rw [foldl_ren, ← hg.now]
  · obtain ⟨y, hy, rfl⟩ := List.mem_map.1 hx
    rw [hlen]
    exact List.idxOf_lt_length_iff.2 (h.kept y hy)
  · obtain ⟨y, hy, rfl⟩ := List.mem_map.1 hc
    have hn : y.new ≠ noName := hn
    rw [hlen]
    show (if y.new = noName then y.file else ord.idxOf y.file) < _
    rw [if_neg hn]
    exact List.idxOf_lt_length_iff.2 (h.chs y hy hn)
theorem small_ren {M : MDisk} {ord : List Nat} {n b : Nat} (hm : M.Small n b) (h : Covers M ord) : (M.renum ord).Small n b := by
  have hl := covers_len h
  have hn := hm.names
  have hf := hm.files
  refine ⟨hm.left, ?_, ?_, fun f hf => hm.each f (file_ren h hf)⟩
  · show (M.kept.map _).length + (M.changes.map _).length ≤ n
    rw [List.length_map, List.length_map]
    exact hn
  · show (ord.map _).length ≤ n
    rw [List.length_map]
    omega

end Go.Proofs.Ytonjaaljnjjjcaa

/- What the operations on cells do to a heap assertion: loads, stores, boxes, slices' literals, make, append, copy. Conditions: as each lemma says. -/
set_option linter.unusedVariables false
set_option linter.unusedSimpArgs false
namespace Go.Proofs.Ytonjaaljnjjjcaa
open Go Go.RowKit

theorem addr_add (b o n : Nat) : (⟨b, o, none⟩ : Addr).add n = ⟨b, o + n, none⟩ := by
  unfold Addr.add
  split <;> simp_all

/-! ### What is read of the types -/
structure TI (t T sz bytes : Nat) (z : Value) : Prop where
  und : Pr.underlying t = some (.slice T)
  info : (Pr.info? T).map (fun i => (i.zero, i.size, i.bytes)) = some (some z, sz, bytes)
  zs : z.cells.size = sz
  pos : 0 < sz

theorem run_sizeOf_of {t n : Nat} (h : sizeOf? Pr t = some n) (w : World) : (sizeOf t).run Pr w = .ok n w := run_sizeOf? h w

/-! ### Loads of structs -/
theorem Sep.loadN {E w : World} {L : List Chunk} (h : Sep E w L) {b : Nat} {cs : Array Value} {T : TypeId} {fr : Nat × Nat} (hc : (b, Obj.cells cs T fr) ∈ L) (o : Nat) :
    ∀ (n i : Nat) (acc : Array Value), o + i + n ≤ cs.size → (loadCellsFrom ⟨b, o, none⟩ i n acc).run Pr w = .ok (acc ++ ((cs.toList.drop (o + i)).take n).toArray) w
  | 0, i, acc, _ => by simp [loadCellsFrom]
  | n + 1, i, acc, hl => by
    have hi : o + i < cs.size := by omega
    have hcell := cell_of h hc (o := o + i) (v := cs[o + i]) (by simp [hi])
    have hd : cs.toList.drop (o + i) = cs[o + i] :: cs.toList.drop (o + (i + 1)) := by
      rw [List.drop_eq_getElem_cons (by simpa using hi)]
      rfl
    rw [loadCellsFrom]
    simp only [Sem.run_bind, addr_add, run_load, hcell, Result.andThen_ok]
    rw [Sep.loadN h hc o n (i + 1) _ (by omega), hd]
    congr 1
    simp

def structT (P : Program) (t : TypeId) : Bool := match P.underlying t with
  | some (.struct _) | some (.array _ _) => true
  | _ => false

theorem run_isAgg_struct {P : Program} {t : TypeId} (h : structT P t = true) (w : World) : (isAgg t).run P w = .ok true w := by
  unfold structT at h
  cases hu : P.underlying t with
  | none => simp [hu] at h
  | some d => cases d <;> simp [hu] at h <;> simp [isAgg, run_underlying hu]

theorem Sep.loadS {E w : World} {L : List Chunk} (h : Sep E w L) {b : Nat} {cs : Array Value} {T : TypeId} {fr : Nat × Nat} (hc : (b, Obj.cells cs T fr) ∈ L) {o n : Nat} {vs : List Value}
    {t : TypeId} (ht : structT Pr t = true) (hn : sizeOf? Pr t = some n) (hv : (cs.toList.drop o).take n = vs) (hle : o + n ≤ cs.size) : At Pr w (loadVar t ⟨b, o, none⟩) (.agg vs.toArray) := by
  unfold At loadVar
  simp only [Sem.run_bind, run_isAgg_struct ht, Result.andThen_ok, if_true, loadCells, run_sizeOf_of hn]
  rw [Sep.loadN h hc o n 0 #[] hle]
  simp [hv]

/-! ### Stores -/
def spl (cs : List Value) (o : Nat) (vs : List Value) : List Value := cs.take o ++ vs ++ cs.drop (o + vs.length)

theorem Sep.setRow {E w : World} {L : List Chunk} {b : Nat} {cs : Array Value} {T : TypeId} {fr : Nat × Nat} (h : Sep E w ((b, .cells cs T fr) :: L)) (cs' : Array Value) :
    Sep E (w.setRow b cs') ((b, .cells cs' T fr) :: L) := by
  have hb : w.heap[b]? = some (.cells cs T fr) := h.at_ _ List.mem_cons_self
  exact h.turn rfl rfl rfl (setRow_heap w b cs cs' T fr hb) (fun i hi => setRow_other w b i cs' hi)

theorem Sep.store {E w : World} {L : List Chunk} {b : Nat} {cs : List Value} {T : TypeId} (h : Sep E w ((b, .cells cs.toArray T (0, 0)) :: L)) {o n : Nat} {v : Value} {t : TypeId}
    (hn : sizeOf? Pr t = some n) (hv : v.cells.size = n) (hle : o + n ≤ cs.length) (h1 : ∀ u ∈ v.cells.toList, u.oneCell' = true) :
    ∃ w', Sem.run Pr (Instr.storeAt t (.pointer (some ⟨b, o, none⟩)) v) w = .ok () w' ∧ Sep E w' ((b, .cells (spl cs o v.cells.toList).toArray T (0, 0)) :: L) := by
  refine ⟨_, ?_, h.setRow _⟩
  have hb : w.heap[b]? = some (.cells cs.toArray T (0, 0)) := h.at_ _ List.mem_cons_self
  have := run_storeCells_at Pr b o T v.cells.toList 0 cs.toArray w hb (by simpa [hv] using hle) h1
  simp only [Instr.storeAt, Instr.sureAddr, storeVar, pure_bind, Sem.run_bind, run_sizeOf_of hn, Result.andThen_ok, hv, ne_eq, not_true_eq_false, if_false]
  simpa [spl] using this

/-! ### New blocks -/
theorem Sep.newVar {E w : World} {L : List Chunk} (h : Sep E w L) {t : TypeId} {v : Value} :
    ∃ b w', Sem.run Pr (Instr.box t v) w = .ok (.pointer (some ⟨b, 0, none⟩)) w' ∧ Sep E w' ((b, .cells v.cells t (0, 0)) :: L) := by
  refine ⟨w.heap.size, _, ?_, h.push _⟩
  simp [Instr.box, Go.newVar, Go.newRow]

theorem Sep.alloc {E w : World} {L : List Chunk} (h : Sep E w L) {t : TypeId} {z : Value} (hz : (Pr.info? t).bind (·.zero) = some z) :
    ∃ b w', Sem.run Pr (Instr.alloc t true (.tuple #[])) w = .ok (.pointer (some ⟨b, 0, none⟩)) w' ∧ Sep E w' ((b, .cells z.cells t (0, 0)) :: L) := by
  refine ⟨w.heap.size, _, ?_, h.push _⟩
  cases hi : Pr.info? t with
  | none => simp [hi] at hz
  | some i =>
    simp [hi] at hz
    simp [Instr.alloc, zeroValue, typeInfo, hi, hz, Go.newVar, Go.newRow]

/-- What a slice's literal holds. -/
def bsV (P : Program) (t len : Nat) (parts : List (Nat × Value)) : Option (List Value) :=
  match P.underlying t with
  | some (.slice e) => match sizeOf? P e, (P.info? e).bind (·.zero) with
    | some n, some z => match Nat.ble (len * n) 16777216 with
      | true => fillL (fun i => some (i * n, n)) ((List.range (len * n)).map fun i => z.cells[i % z.cells.size]!) parts
      | false => none
    | _, _ => none
  | _ => none

theorem Sep.buildSlice {E w : World} {L : List Chunk} (h : Sep E w L) {t T len : Nat} {parts : List (Nat × Value)} {vs : List Value} (hu : Pr.underlying t = some (.slice T)) (hv : bsV Pr t len parts = some vs) :
    ∃ b w', Sem.run Pr (Instr.buildSlice t len parts.toArray) w = .ok (.slice (some ⟨b, 0, none⟩) len len) w' ∧ Sep E w' ((b, .cells vs.toArray T (0, 0)) :: L) := by
  refine ⟨w.heap.size, _, ?_, h.push _⟩
  unfold bsV at hv
  simp only [hu] at hv
  cases hn : sizeOf? Pr T with
  | none => simp [hn] at hv
  | some n =>
    cases hz : (Pr.info? T).bind (·.zero) with
    | none => simp [hn, hz] at hv
    | some z =>
      simp only [hn, hz] at hv
      cases hb : Nat.ble (len * n) 16777216 with
      | false => simp [hb] at hv
      | true =>
        simp only [hb] at hv
        have hb := Nat.le_of_ble_eq_true hb
        have hf := fillL_sound _ _ _ hv
        cases hi : Pr.info? T with
        | none => simp [hi] at hz
        | some i =>
          have hz' : i.zero = some z := by simpa [hi] using hz
          have hzero : (Array.range (len * n)).map (fun k => z.cells[k % z.cells.size]!) = (((List.range (len * n)).map fun k => z.cells[k % z.cells.size]!)).toArray := by
            apply Array.ext'
            simp
          have hrz : (zeroValue T).run Pr w = .ok z w := by simp [zeroValue, typeInfo, hi, hz']
          simp only [Instr.buildSlice, Sem.run_bind, run_underlying hu, Result.andThen_ok, run_sizeOf_of hn]
          rw [if_neg (by omega)]
          by_cases h0 : len * n = 0
          · have hf0 : Instr.fill (fun i => some (i * n, n)) #[] parts = some vs.toArray := by simpa [h0] using hf
            simp [h0, show Array.range 0 = #[] from rfl, hf0, newRow]
          · simp only [h0, if_false, Sem.run_bind, Sem.run_pure, hrz, Result.andThen_ok]
            have hf' : Instr.fill (fun i => some (i * n, n)) ((Array.range (len * n)).map (fun k => z.cells[k % z.cells.size]!)) parts = some vs.toArray := by rw [hzero]; exact hf
            simp [hf', newRow]

/-- The zeros of n elements. -/
def zerosL (z : Value) (n : Nat) : List Value := (List.range n).map fun i => z.cells[i % z.cells.size]!

theorem Sep.makeSlice {E w : World} {L : List Chunk} (h : Sep E w L) {t T sz bytes : Nat} {z : Value} (ti : TI t T sz bytes z) {n : Nat} (hb : bytes * n ≤ 281474976710656) (hn : n ≤ 9223372036854775807) :
    ∃ b w', Sem.run Pr (Instr.makeSlice t (.int .i64 (n : Int)) (.int .i64 (n : Int))) w = .ok (.slice (some ⟨b, 0, none⟩) n n) w' ∧ Sep E w' ((b, .cells (zerosL z (n * sz)).toArray T (0, 0)) :: L) := by
  obtain ⟨i, hi, hz, hsz, hby⟩ := info_parts ti.info
  refine ⟨w.heap.size, _, ?_, h.push _⟩
  have hw : IntKind.i64.wrap (n : Int) = (n : Int) := by rw [IntKind.wrap_i64]; omega
  have hbi : ¬ ((bytes : Int) * (n : Int) > 2 ^ 48) := by
    have h : ((bytes * n : Nat) : Int) ≤ 281474976710656 := by omega
    rw [Int.natCast_mul] at h
    have e : (2 : Int) ^ 48 = 281474976710656 := by decide
    rw [e]
    omega
  have hn0 : ¬ ((n : Int) < 0) := by omega
  have hrz : (zeroValue T).run Pr w = .ok z w := by simp [zeroValue, typeInfo, hi, hz]
  have hzero : (Array.range (n * sz)).map (fun k => z.cells[k % z.cells.size]!) = (zerosL z (n * sz)).toArray := by
    apply Array.ext'
    simp [zerosL]
  simp only [Instr.makeSlice, Sem.run_bind, run_underlying ti.und, Result.andThen_ok, asInt, asIntOf, Sem.run_pure, typeInfo, run_program, hi, hw, hby, hn0, hbi, decide_false, Bool.or_self, if_false, Int.lt_irrefl, gt_iff_lt, Bool.false_eq_true, run_askRoom, sizeOf, hsz, Int.toNat_natCast]
  by_cases h0 : n * sz = 0
  · simp [h0, show Array.range 0 = #[] from rfl, newRow, zerosL]
  · simp only [h0, if_false, Sem.run_bind, hrz, Result.andThen_ok, Sem.run_pure, hzero]
    simp [newRow]

/-! ### Slices of the call's own -/
structure Own (T sz : Nat) (s : SV) (vs : List Value) (L : List Chunk) : Prop where
  len : vs.length = s.len * sz
  form : (s.a = none ∧ s.len = 0 ∧ s.cap = 0 ∧ L = []) ∨ ∃ g cur, s.a = some ⟨g, 0, none⟩ ∧ L = [(g, .cells cur T (0, 0))] ∧ s.len ≤ s.cap ∧ s.cap ≤ maxLen ∧ cur.size = s.cap * sz ∧ cur.toList.take (s.len * sz) = vs

def SV.nil : SV := ⟨none, 0, 0⟩

theorem Own.nil (T sz : Nat) : Own T sz SV.nil [] [] := ⟨by simp [SV.nil], .inl ⟨rfl, rfl, rfl, rfl⟩⟩

theorem Own.new {T sz : Nat} {g n : Nat} {vs : List Value} (hl : vs.length = n * sz) (hn : n ≤ maxLen) : Own T sz ⟨some ⟨g, 0, none⟩, n, n⟩ vs [(g, .cells vs.toArray T (0, 0))] :=
  ⟨hl, .inr ⟨g, vs.toArray, rfl, rfl, Nat.le_refl _, hn, by simpa using hl, by simp only [← hl]; exact List.take_length⟩⟩

/-- What a slice reads in w. -/
structure Src (w : World) (sz : Nat) (s : SV) (xs : List Value) : Prop where
  len : xs.length = s.len * sz
  nil : s.a = none → s.len = 0
  at_ : ∀ a, s.a = some a → ∀ j u, xs[j]? = some u → w.cell? (a.add j) = some u

/-- What a slice reads out of blocks that stay as they are. -/
structure RdS (I : List Chunk) (sz : Nat) (s : SV) (xs : List Value) : Prop where
  len : xs.length = s.len * sz
  cap : s.len ≤ s.cap
  nil : s.a = none → s.len = 0
  at_ : ∀ a, s.a = some a → s.len = 0 ∨ (a.spot = none ∧ ∃ cs T fr, (a.block, Obj.cells cs T fr) ∈ I ∧ ∀ j u, xs[j]? = some u → cs[a.off + j]? = some u)

theorem RdS.mono {I I' : List Chunk} {sz : Nat} {s : SV} {xs : List Value} (h : RdS I sz s xs) (hI : ∀ c ∈ I, c ∈ I') : RdS I' sz s xs :=
  ⟨h.len, h.cap, h.nil, fun a ha => by
    refine (h.at_ a ha).imp id ?_
    rintro ⟨h1, cs, T, fr, hc, hv⟩
    exact ⟨h1, cs, T, fr, hI _ hc, hv⟩⟩

theorem RdS.src {I L : List Chunk} {E w : World} {sz : Nat} {s : SV} {xs : List Value} (h : RdS I sz s xs) (hS : Sep E w L) (hI : ∀ c ∈ I, c ∈ L) : Src w sz s xs :=
  ⟨h.len, h.nil, fun a ha j u hu => by
    rcases h.at_ a ha with h0 | ⟨h1, cs, T, fr, hc, hv⟩
    · have : xs = [] := List.eq_nil_of_length_eq_zero (by rw [h.len, h0, Nat.zero_mul])
      subst this
      cases hu
    · obtain ⟨b, o, sp⟩ := a
      simp only at h1
      subst h1
      rw [addr_add]
      exact cell_of hS (hI _ hc) (hv j u hu)⟩

theorem Own.rds {T sz : Nat} {s : SV} {vs : List Value} {L : List Chunk} (h : Own T sz s vs L) : RdS L sz s vs := by
  rcases h.form with ⟨h1, h2, h3, rfl⟩ | ⟨g, cur, h1, rfl, h2, h3, h4, h5⟩
  · exact ⟨h.len, by omega, fun _ => h2, fun a ha => by rw [h1] at ha; cases ha⟩
  · refine ⟨h.len, h2, fun ha => (by rw [h1] at ha; cases ha), fun a ha => ?_⟩
    rw [h1] at ha
    injection ha with ha
    subst ha
    refine .inr ⟨rfl, cur, T, (0, 0), List.mem_cons_self, fun j u hu => ?_⟩
    rw [← h5, List.getElem?_take] at hu
    split at hu
    · simpa using hu
    · cases hu

theorem Own.owns {T sz : Nat} {s : SV} {vs : List Value} {L F : List Chunk} {E w : World} (h : Own T sz s vs L) (hS : Sep E w (L ++ F)) : w.ownsRow 0 T sz (.slice s.a s.len s.cap) s.len vs := by
  refine ⟨h.len, ?_⟩
  rcases h.form with ⟨h1, h2, h3, rfl⟩ | ⟨g, cur, h1, rfl, h2, h3, h4, h5⟩
  · exact .inl ⟨by rw [h1, h2, h3], h2⟩
  · exact .inr ⟨g, s.cap, cur, by rw [h1], Nat.zero_le _, hS.at_ (g, .cells cur T (0, 0)) (by simp), h2, h3, h4, h5⟩

theorem Own.of_owns {T sz : Nat} {v : Value} {n : Nat} {vs : List Value} {w : World} (h : w.ownsRow 0 T sz v n vs) :
    ∃ (s : SV) (L : List Chunk), v = .slice s.a s.len s.cap ∧ s.len = n ∧ Own T sz s vs L ∧ ((v.ownBlock = none ∧ L = []) ∨ ∃ g o, v.ownBlock = some g ∧ L = [(g, o)] ∧ w.heap[g]? = some o) := by
  rcases h.2 with ⟨rfl, rfl⟩ | ⟨g, cap, cur, rfl, _, h1, h2, h3, h4, h5⟩
  · exact ⟨SV.nil, [], rfl, rfl, ⟨by simpa [SV.nil] using h.1, .inl ⟨rfl, rfl, rfl, rfl⟩⟩, .inl ⟨rfl, rfl⟩⟩
  · exact ⟨⟨some ⟨g, 0, none⟩, n, cap⟩, _, rfl, rfl, ⟨h.1, .inr ⟨g, cur, rfl, rfl, h2, h3, h4, h5⟩⟩, .inr ⟨g, _, rfl, rfl, h1⟩⟩

theorem run_append_src {w : World} {t ty T sz bytes : Nat} {z : Value} (ti : TI t T sz bytes z) {v : Value} {n : Nat} {vs xs : List Value} {x : SV} (hown : w.ownsRow 0 T sz v n vs) (hx : Src w sz x xs) (h1 : ∀ u ∈ xs, u.oneCell' = true)
    (hb : (n + x.len) * bytes ≤ 140737488355328) (hm : n + x.len ≤ maxLen) :
    ∃ v' w', (Builtin.append_ #[t, t] ty #[v, .slice x.a x.len x.cap]).run Pr w = .ok v' w' ∧ w'.ownsRow 0 T sz v' (n + x.len) (vs ++ xs) ∧ w.grownBy w' v.ownBlock ∧ (v'.ownBlock = v.ownBlock ∨ v'.ownBlock = some w.heap.size) := by
  obtain ⟨i, hi, hz, hsz, hby⟩ := info_parts ti.info
  obtain ⟨xa, xl, xc⟩ := x
  cases xa with
  | some a =>
    obtain ⟨v', w', hr, h2, h3, _, h4⟩ := run_append_own_at (P := Pr) w 0 t ty T i z sz bytes ti.und hi hz hsz hby ti.zs ti.pos v n vs hown a xl xc xs hx.len (hx.at_ a rfl) h1 hm hb (Nat.zero_le _)
    exact ⟨v', w', hr, h2, h3, h4⟩
  | none =>
    have hl : xl = 0 := hx.nil rfl
    subst hl
    have hxs : xs = [] := List.eq_nil_of_length_eq_zero (by simpa using hx.len)
    subst hxs
    refine ⟨v, w, ?_, by simpa using hown, ⟨rfl, rfl, rfl, Nat.le_refl _, fun _ _ _ => rfl⟩, .inl rfl⟩
    rcases hown.2 with ⟨rfl, rfl⟩ | ⟨g, cap, cur, rfl, _, _, hnc, _⟩
    · simp [Builtin.append_, run_underlying ti.und, sizeOf, typeInfo, hi, Builtin.lenOf, Builtin.firstCells]
    · simp [Builtin.append_, run_underlying ti.und, sizeOf, typeInfo, hi, Builtin.lenOf, Builtin.firstCells, hnc, storeCells]

/-- append, on a slice of the call's own. -/
theorem Sep.append {E w : World} {L F : List Chunk} {t ty T sz bytes : Nat} {z : Value} (ti : TI t T sz bytes z) {s x : SV} {vs xs : List Value} (hS : Sep E w (L ++ F)) (ho : Own T sz s vs L) (hx : Src w sz x xs)
    (h1 : ∀ u ∈ xs, u.oneCell' = true) (hb : (s.len + x.len) * bytes ≤ 140737488355328) (hm : s.len + x.len ≤ maxLen) :
    ∃ s' w' L', Sem.run Pr (Builtin.append_ #[t, t] ty #[.slice s.a s.len s.cap, .slice x.a x.len x.cap]) w = .ok (.slice s'.a s'.len s'.cap) w' ∧ Own T sz s' (vs ++ xs) L' ∧ s'.len = s.len + x.len ∧ Sep E w' (L' ++ F) := by
  have hown := ho.owns hS
  obtain ⟨v', w', hr, h2, h3, h4⟩ := run_append_src (ty := ty) ti hown hx h1 hb hm
  obtain ⟨s', L', rfl, hl, ho', hL⟩ := Own.of_owns h2
  refine ⟨s', w', L', hr, ho', hl, ?_⟩
  -- what stands in F is not the slice's own block
  have hF : ∀ c ∈ F, w'.heap[c.1]? = some c.2 := fun c hc => by
    have hcw := hS.at_ c (List.mem_append_right _ hc)
    rw [h3.block c.1 (hS.lt (List.mem_append_right _ hc)) ?_]
    · exact hcw
    · intro e
      rcases ho.form with ⟨g1, _, _, _⟩ | ⟨g, cur, g1, rfl, _⟩
      · rw [g1] at e; cases e
      · rw [g1] at e
        simp only [Value.ownBlock, Option.some.injEq] at e
        exact Sep.ne (L := F) hS (b' := c.1) (o' := c.2) hc e
  have hSF : Sep E w' F := ⟨h3.os.trans hS.os, h3.tape.trans hS.tape, h3.output.trans hS.output, fun b => Nat.le_trans (by rw [ms_append]; omega) (hS.uniq b), hF⟩
  rcases hL with ⟨_, rfl⟩ | ⟨g, o, hg, rfl, hgo⟩
  · exact hSF
  · refine ⟨hSF.os, hSF.tape, hSF.output, fun b => ?_, fun c hc => ?_⟩
    · show ms (at1 b) ((g, o) :: F) ≤ 1
      by_cases hb : g = b
      · have : ms (at1 b) F = 0 := ms_zero fun c hc => by
          have hne : c.1 ≠ g := by
            rcases h4 with h4 | h4
            · rw [hg] at h4
              rcases ho.form with ⟨g1, _, _, _⟩ | ⟨g', cur, g1, rfl, _⟩
              · rw [g1] at h4; cases h4
              · rw [g1] at h4
                simp only [Value.ownBlock, Option.some.injEq] at h4
                subst h4
                exact Sep.ne (L := F) hS (b' := c.1) (o' := c.2) hc
            · rw [hg] at h4
              injection h4 with h4
              have := hS.lt (List.mem_append_right _ hc)
              omega
          simp [at1]; omega
        simp [ms, at1, hb] at this ⊢
        omega
      · have := hSF.uniq b
        simpa [ms, at1, hb] using this
    · rcases List.mem_cons.1 hc with rfl | hc
      · exact hgo
      · exact hF c hc

end Go.Proofs.Ytonjaaljnjjjcaa

/- Maps and iterators in a heap assertion; bytes and strings. Conditions: as each lemma says. -/
set_option linter.unusedVariables false
set_option linter.unusedSimpArgs false
namespace Go.Proofs.Ytonjaaljnjjjcaa
open Go Go.RowKit

/-- An entry: its key, its value, when it was born. -/
structure Ent (K : Type) where
  k : K
  v : Value
  born : Nat

def Ent.me {K : Type} (kv : K → Value) (x : Ent K) : MapEntry := ⟨kv x.k, x.v, x.born⟩

section
variable {K : Type} [DecidableEq K]

/-- The first of a key, and where it stands. -/
def lookE (k : K) : List (Ent K) → Nat → Option (Nat × Value)
  | [], _ => none
  | x :: l, i => if x.k = k then some (i, x.v) else lookE k l (i + 1)

/-- A key's value. -/
def getE (k : K) : List (Ent K) → Option Value
  | [] => none
  | x :: l => if x.k = k then some x.v else getE k l

def setE (k : K) (v : Value) (c : Nat) : List (Ent K) → List (Ent K)
  | [] => [⟨k, v, c⟩]
  | x :: l => if x.k = k then ⟨k, v, x.born⟩ :: l else x :: setE k v c l

def delE (k : K) : List (Ent K) → List (Ent K)
  | [] => []
  | x :: l => if x.k = k then l else x :: delE k l

theorem lookE_get (k : K) : ∀ (l : List (Ent K)) (i : Nat), (lookE k l i).map (·.2) = getE k l
  | [], _ => rfl
  | x :: l, i => by
    unfold lookE getE
    split
    · rfl
    · exact lookE_get k l (i + 1)

theorem lookE_shift (k : K) : ∀ (l : List (Ent K)) (i : Nat), lookE k l (i + 1) = (lookE k l i).map fun x => (x.1 + 1, x.2)
  | [], _ => rfl
  | x :: l, i => by
    unfold lookE
    split
    · rfl
    · exact lookE_shift k l (i + 1)

/-- How keys are told apart in w: the first of a key is found. -/
def KeyOk (P : Program) (kt : TypeId) (kv : K → Value) (w : World) (l : List (Ent K)) (k : K) : Prop :=
  (Instr.findKey kt (kv k) (l.map (Ent.me kv))).run P w = .ok (lookE k l 0) w ∧ (∀ e, (Instr.checkKey e 10000 kt (kv k)).run P w = .ok () w) ∧ Instr.sameBits 10000 (kv k) (kv k) = true

theorem modify_set {kv : K → Value} {k : K} {v : Value} {c : Nat} : ∀ (l : List (Ent K)) (i : Nat) (u : Value), lookE k l 0 = some (i, u) →
    (((l.map (Ent.me kv)).toArray).modify i fun e => { e with key := kv k, val := v }) = ((setE k v c l).map (Ent.me kv)).toArray
  | [], _, _, h => by simp [lookE] at h
  | x :: l, i, u, h => by
    unfold lookE at h
    unfold setE
    split at h
    · rename_i hx
      simp only [Option.some.injEq, Prod.mk.injEq] at h
      obtain ⟨rfl, _⟩ := h
      rw [if_pos hx]
      apply Array.ext'
      simp [Ent.me]
    · rename_i hx
      rw [if_neg hx, lookE_shift] at *
      obtain ⟨⟨j, u'⟩, hj, he⟩ := Option.map_eq_some_iff.1 h
      simp only [Prod.mk.injEq] at he
      obtain ⟨rfl, rfl⟩ := he
      have := modify_set (kv := kv) (v := v) (c := c) l j u' hj
      have h2 := congrArg Array.toList this
      apply Array.ext'
      simp at h2 ⊢
      exact h2

theorem key_at {kv : K → Value} {k : K} : ∀ (l : List (Ent K)) (i : Nat) (u : Value), lookE k l 0 = some (i, u) → (((l.map (Ent.me kv)).toArray[i]?).map (·.key)).getD (kv k) = kv k
  | [], _, _, h => by simp [lookE] at h
  | x :: l, i, u, h => by
    unfold lookE at h
    split at h
    · rename_i hx
      simp only [Option.some.injEq, Prod.mk.injEq] at h
      obtain ⟨rfl, _⟩ := h
      simp [Ent.me, hx]
    · rename_i hx
      rw [lookE_shift] at h
      obtain ⟨⟨j, u'⟩, hj, he⟩ := Option.map_eq_some_iff.1 h
      simp only [Prod.mk.injEq] at he
      obtain ⟨rfl, rfl⟩ := he
      have := key_at (kv := kv) l j u' hj
      simpa using this

theorem push_set {kv : K → Value} {k : K} {v : Value} {c : Nat} : ∀ (l : List (Ent K)), lookE k l 0 = none → ((l.map (Ent.me kv)).toArray.push { key := kv k, val := v, born := c }) = ((setE k v c l).map (Ent.me kv)).toArray
  | [], _ => rfl
  | x :: l, h => by
    unfold lookE at h
    unfold setE
    split at h
    · cases h
    · rename_i hx
      rw [if_neg hx]
      rw [lookE_shift] at h
      have := push_set (kv := kv) (v := v) (c := c) l (by simpa using h)
      have h2 := congrArg Array.toList this
      apply Array.ext'
      simp at h2 ⊢
      exact h2

theorem erase_del {kv : K → Value} {k : K} : ∀ (l : List (Ent K)) (i : Nat) (u : Value), lookE k l 0 = some (i, u) → ((l.map (Ent.me kv)).toArray.eraseIdxIfInBounds i) = ((delE k l).map (Ent.me kv)).toArray
  | [], _, _, h => by simp [lookE] at h
  | x :: l, i, u, h => by
    unfold lookE at h
    unfold delE
    split at h
    · rename_i hx
      simp only [Option.some.injEq, Prod.mk.injEq] at h
      obtain ⟨rfl, _⟩ := h
      rw [if_pos hx]
      apply Array.ext'
      simp
    · rename_i hx
      rw [if_neg hx]
      rw [lookE_shift] at h
      obtain ⟨⟨j, u'⟩, hj, he⟩ := Option.map_eq_some_iff.1 h
      simp only [Prod.mk.injEq] at he
      obtain ⟨rfl, rfl⟩ := he
      have := erase_del (kv := kv) l j u' hj
      have h2 := congrArg Array.toList this
      apply Array.ext'
      simp at h2 ⊢
      exact h2

theorem del_none {k : K} : ∀ (l : List (Ent K)), lookE k l 0 = none → delE k l = l
  | [], _ => rfl
  | x :: l, h => by
    unfold lookE at h
    unfold delE
    split at h
    · cases h
    · rename_i hx
      rw [if_neg hx]
      rw [lookE_shift] at h
      rw [del_none l (by simpa using h)]

/-- A map's block. -/
def mapC (kv : K → Value) (m : Nat) (l : List (Ent K)) (c : Nat) : Chunk := (m, .map (l.map (Ent.me kv)).toArray c)

variable {kv : K → Value} {E w : World} {L : List Chunk} {m c : Nat} {l : List (Ent K)} {mt kt et : TypeId} {k : K}

theorem run_getObj_map {es : Array MapEntry} (h : w.heap[m]? = some (.map es c)) : (getObj m).run Pr w = .ok (.map es c) w := by
  simp [getObj, Sem.run, h]

theorem Sep.lookup (hS : Sep E w L) (hm : mapC kv m l c ∈ L) (hu : Pr.underlying mt = some (.map kt et)) {z : Value} (hz : (Pr.info? et).bind (·.zero) = some z) (hk : KeyOk Pr kt kv w l k) :
    At Pr w (Instr.lookup mt (.map (some m)) (kv k) false) ((getE k l).getD z) := by
  have hb : w.heap[m]? = some (.map (l.map (Ent.me kv)).toArray c) := hS.at_ _ hm
  obtain ⟨h1, h2, _⟩ := hk
  have hzr : (zeroValue et).run Pr w = .ok z w := by
    cases hi : Pr.info? et with
    | none => simp [hi] at hz
    | some i =>
      have hz' : i.zero = some z := by simpa [hi] using hz
      simp [zeroValue, typeInfo, hi, hz']
  have hg := lookE_get k l 0
  unfold At Instr.lookup
  simp only [Sem.run_bind, run_underlying hu, Result.andThen_ok, run_getObj_map hb, Sem.run_pure, h2]
  have h1' : Sem.run Pr (Instr.findKey kt (kv k) (l.map (Ent.me kv)).toArray.toList) w = .ok (lookE k l 0) w := h1
  rw [h1']
  cases hl : lookE k l 0 with
  | none =>
    rw [hl] at hg
    have hg' : getE k l = none := by simpa using hg.symm
    simp [hzr, hg']
  | some x =>
    rw [hl] at hg
    have hg' : getE k l = some x.2 := by simpa using hg.symm
    simp [hg']

theorem Sep.lookup_ok (hS : Sep E w L) (hm : mapC kv m l c ∈ L) (hu : Pr.underlying mt = some (.map kt et)) {z : Value} (hz : (Pr.info? et).bind (·.zero) = some z) (hk : KeyOk Pr kt kv w l k) :
    At Pr w (Instr.lookup mt (.map (some m)) (kv k) true) (.tuple #[(getE k l).getD z, .bool (getE k l).isSome]) := by
  have hb : w.heap[m]? = some (.map (l.map (Ent.me kv)).toArray c) := hS.at_ _ hm
  obtain ⟨h1, h2, _⟩ := hk
  have hzr : (zeroValue et).run Pr w = .ok z w := by
    cases hi : Pr.info? et with
    | none => simp [hi] at hz
    | some i =>
      have hz' : i.zero = some z := by simpa [hi] using hz
      simp [zeroValue, typeInfo, hi, hz']
  have hg := lookE_get k l 0
  unfold At Instr.lookup
  simp only [Sem.run_bind, run_underlying hu, Result.andThen_ok, run_getObj_map hb, Sem.run_pure, h2]
  have h1' : Sem.run Pr (Instr.findKey kt (kv k) (l.map (Ent.me kv)).toArray.toList) w = .ok (lookE k l 0) w := h1
  rw [h1']
  cases hl : lookE k l 0 with
  | none =>
    rw [hl] at hg
    have hg' : getE k l = none := by simpa using hg.symm
    simp [hzr, hg']
  | some x =>
    rw [hl] at hg
    have hg' : getE k l = some x.2 := by simpa using hg.symm
    simp [hg']

theorem run_setObj_map {es : Array MapEntry} (h : w.heap[m]? = some (.map es c)) (o : Obj) : (setObj m o).run Pr w = .ok () { w with heap := w.heap.setIfInBounds m o } := by
  simp [setObj, Sem.run, h]

theorem Sep.setObj {o o' : Obj} (hS : Sep E w ((m, o) :: L)) : Sep E { w with heap := w.heap.setIfInBounds m o' } ((m, o') :: L) := by
  have hb := hS.at_ (m, o) List.mem_cons_self
  have hlt := (Array.getElem?_eq_some_iff.1 hb).1
  exact hS.turn rfl rfl rfl (by simp at hlt; simp [hlt]) (fun i hi => by simp [Array.getElem?_setIfInBounds_ne (Ne.symm hi)])

theorem Sep.mapUpdate (hS : Sep E w (mapC kv m l c :: L)) (hu : Pr.underlying mt = some (.map kt et)) (v : Value) (hk : KeyOk Pr kt kv w l k) :
    ∃ w', Sem.run Pr (Instr.mapUpdate mt (.map (some m)) (kv k) v) w = .ok () w' ∧ Sep E w' (mapC kv m (setE k v c l) (if (getE k l).isSome then c else c + 1) :: L) := by
  have hb : w.heap[m]? = some (.map (l.map (Ent.me kv)).toArray c) := hS.at_ _ List.mem_cons_self
  obtain ⟨h1, h2, h3⟩ := hk
  have hg := lookE_get k l 0
  have h1' : Sem.run Pr (Instr.findKey kt (kv k) (l.map (Ent.me kv)).toArray.toList) w = .ok (lookE k l 0) w := h1
  cases hl : lookE k l 0 with
  | none =>
    rw [hl] at hg
    have hg' : getE k l = none := by simpa using hg.symm
    refine ⟨_, ?_, by rw [hg']; exact hS.setObj⟩
    unfold Instr.mapUpdate
    simp only [Sem.run_bind, run_underlying hu, Result.andThen_ok, run_getObj_map hb, h2, h1', hl]
    rw [push_set l hl]
    exact run_setObj_map hb _
  | some x =>
    rw [hl] at hg
    have hg' : getE k l = some x.2 := by simpa using hg.symm
    obtain ⟨i, u⟩ := x
    refine ⟨_, ?_, by rw [hg']; exact hS.setObj⟩
    unfold Instr.mapUpdate
    simp only [Sem.run_bind, run_underlying hu, Result.andThen_ok, run_getObj_map hb, h2, h1', hl]
    have hst : Sem.run Pr (Instr.keyThatStays ((((l.map (Ent.me kv)).toArray[i]?).map (·.key)).getD (kv k)) (kv k)) w = .ok (kv k) w := by
      rw [key_at l i u hl]
      simp [Instr.keyThatStays, h3]
    simp only [hst, Result.andThen_ok]
    rw [modify_set (c := c) l i u hl]
    exact run_setObj_map hb _

theorem Sep.delete (hS : Sep E w (mapC kv m l c :: L)) (hu : Pr.underlying mt = some (.map kt et)) (hk : KeyOk Pr kt kv w l k) {kt' ty : TypeId} :
    ∃ w', Sem.run Pr (Builtin.delete_ #[mt, kt'] ty #[.map (some m), kv k]) w = .ok (.tuple #[]) w' ∧ Sep E w' (mapC kv m (delE k l) c :: L) := by
  have hb : w.heap[m]? = some (.map (l.map (Ent.me kv)).toArray c) := hS.at_ _ List.mem_cons_self
  obtain ⟨h1, h2, h3⟩ := hk
  have h1' : Sem.run Pr (Instr.findKey kt (kv k) (l.map (Ent.me kv)).toArray.toList) w = .ok (lookE k l 0) w := h1
  cases hl : lookE k l 0 with
  | none =>
    refine ⟨_, ?_, by rw [del_none l hl]; exact hS.setObj⟩
    have := run_setObj_map hb (.map (l.map (Ent.me kv)).toArray c)
    simp only [Builtin.delete_, List.getElem?_toArray, List.getElem?_cons_zero, List.getElem?_cons_succ, pure_bind, Sem.run_bind, run_underlying hu, Result.andThen_ok, run_getObj_map hb, h2, h1', hl, this, Sem.run_pure]
  | some x =>
    obtain ⟨i, u⟩ := x
    refine ⟨_, ?_, hS.setObj⟩
    have := run_setObj_map hb (.map ((delE k l).map (Ent.me kv)).toArray c)
    simp only [Builtin.delete_, List.getElem?_toArray, List.getElem?_cons_zero, List.getElem?_cons_succ, pure_bind, Sem.run_bind, run_underlying hu, Result.andThen_ok, run_getObj_map hb, h2, h1', hl, erase_del l i u hl, this, Sem.run_pure]

end

section
variable {K : Type} {kv : K → Value} {E w : World} {L : List Chunk} {m c : Nat} {l : List (Ent K)} {mt kt et : TypeId}

theorem Sep.makeMap (hS : Sep E w L) (mt : TypeId) : ∃ m w', Sem.run Pr (Instr.makeMap mt none) w = .ok (.map (some m)) w' ∧ Sep E w' (mapC kv m [] 0 :: L) := by
  refine ⟨w.heap.size, _, ?_, hS.push _⟩
  simp [Instr.makeMap]

theorem Sep.mapLen (hS : Sep E w L) (hm : mapC kv m l c ∈ L) (hu : Pr.underlying mt = some (.map kt et)) {ty : TypeId} : At Pr w (Builtin.len_ #[mt] ty #[.map (some m)]) (.int .i64 l.length) := by
  have hb : w.heap[m]? = some (.map (l.map (Ent.me kv)).toArray c) := hS.at_ _ hm
  unfold At
  simp only [Builtin.len_, List.getElem?_toArray, List.getElem?_cons_zero, pure_bind, Sem.run_bind, run_underlying hu, Result.andThen_ok, run_getObj_map hb, Sem.run_pure, goInt]
  simp

end
end Go.Proofs.Ytonjaaljnjjjcaa

/- Ranging over maps in a heap assertion. Conditions: as each lemma says. -/
set_option linter.unusedVariables false
set_option linter.unusedSimpArgs false
namespace Go.Proofs.Ytonjaaljnjjjcaa
open Go Go.RowKit

section
variable {K : Type} {kv : K → Value}

theorem filter_left (seen : List Nat) : ∀ (l : List (Ent K)), ((l.map (Ent.me kv)).filter fun e => !seen.toArray.contains e.born) = (l.filter fun e => !seen.contains e.born).map (Ent.me kv)
  | [] => rfl
  | x :: l => by
    have h0 : seen.toArray.contains (Ent.me kv x).born = seen.contains x.born := by simp [Ent.me]
    rw [List.map_cons, List.filter_cons, List.filter_cons, h0, filter_left seen l]
    cases seen.contains x.born <;> rfl

theorem filter_old (c : Nat) : ∀ (l : List (Ent K)), (∀ e ∈ l, e.born < c) → ((l.map (Ent.me kv)).filter fun e => decide (e.born < c)) = l.map (Ent.me kv)
  | [], _ => rfl
  | x :: l, h => by
    have h0 : decide ((Ent.me kv x).born < c) = true := decide_eq_true (h x List.mem_cons_self)
    rw [List.map_cons, List.filter_cons, h0, filter_old c l fun e he => h e (List.mem_cons_of_mem _ he)]
    rfl

theorem filter_new (c : Nat) : ∀ (l : List (Ent K)), (∀ e ∈ l, e.born < c) → ((l.map (Ent.me kv)).filter fun e => decide (e.born ≥ c)) = []
  | [], _ => rfl
  | x :: l, h => by
    have h0 : decide ((Ent.me kv x).born ≥ c) = false := decide_eq_false (Nat.not_le.2 (h x List.mem_cons_self))
    rw [List.map_cons, List.filter_cons, h0, filter_new c l fun e he => h e (List.mem_cons_of_mem _ he)]
    rfl

theorem arr_filter {α : Type} (l : List α) (p : α → Bool) : l.toArray.filter p = (l.filter p).toArray := by
  apply Array.ext'
  simp

theorem find_born : ∀ (l : List (Ent K)) (e : Ent K), e ∈ l → (l.map (·.born)).Nodup → ((l.map (Ent.me kv)).find? fun x => x.born == e.born) = some (Ent.me kv e)
  | [], _, h, _ => by cases h
  | x :: l, e, h, hn => by
    rw [List.map_cons, List.nodup_cons] at hn
    rw [List.map_cons, List.find?_cons]
    rcases List.mem_cons.1 h with rfl | h
    · simp [Ent.me]
    · have hne : ((Ent.me kv x).born == e.born) = false := by
        simp only [Ent.me, beq_eq_false_iff_ne]
        intro he
        exact hn.1 (he ▸ List.mem_map.2 ⟨e, h, rfl⟩)
      rw [hne]
      exact find_born l e h hn.2

end

section
variable {K : Type}
variable {kv : K → Value} {E w : World} {L : List Chunk} {m c : Nat} {l : List (Ent K)} {mt kt et : TypeId} {k : K}

def iterC (it m since : Nat) (seen : List Nat) : Chunk := (it, .mapIter (some m) since seen.toArray since)

theorem Sep.range (hS : Sep E w L) (hm : mapC kv m l c ∈ L) (hu : Pr.underlying mt = some (.map kt et)) :
    ∃ it w', Sem.run Pr (Instr.range mt (.map (some m))) w = .ok (.pointer (some ⟨it, 0, none⟩)) w' ∧ Sep E w' (iterC it m c [] :: L) := by
  have hb : w.heap[m]? = some (.map (l.map (Ent.me kv)).toArray c) := hS.at_ _ hm
  refine ⟨w.heap.size, _, ?_, hS.push _⟩
  simp only [Instr.range, Sem.run_bind, run_underlying hu, Result.andThen_ok, run_getObj_map hb, Sem.run_pure, run_newObj]

/-- What a step of a range does, where nothing is stored between. -/
theorem run_next {it : Nat} {seen : List Nat} (hi : w.heap[it]? = some (.mapIter (some m) c seen.toArray c)) (hb : w.heap[m]? = some (.map (l.map (Ent.me kv)).toArray c)) (hborn : ∀ e ∈ l, e.born < c) (ty : TypeId) :
    ((∀ e ∈ l, e.born ∈ seen) ∧ (Instr.next (.pointer (some ⟨it, 0, none⟩)) false ty).run Pr w = .ok (.tuple #[.bool false]) w) ∨
    ∃ e ∈ l, e.born ∉ seen ∧ ∃ w1 : World, w1.heap = w.heap ∧ w1.os = w.os ∧ w1.tape = w.tape ∧ w1.output = w.output ∧
      (Instr.next (.pointer (some ⟨it, 0, none⟩)) false ty).run Pr w = .ok (.tuple #[.bool true, kv e.k, e.v]) { w1 with heap := w1.heap.setIfInBounds it (.mapIter (some m) c (seen.toArray.push e.born) c) } := by
  have hg : (Go.getObj it).run Pr w = .ok (.mapIter (some m) c seen.toArray c) w := by simp [Go.getObj, Sem.run, hi]
  have hcond : (!seen.toArray.isEmpty && !(l.map (Ent.me kv)).toArray.isEmpty && ((l.map (Ent.me kv)).toArray.all fun e => decide (e.born ≥ c))) = false := by
    cases l with
    | nil => simp
    | cons x l =>
      have h0 : decide ((Ent.me kv x).born ≥ c) = false := decide_eq_false (Nat.not_le.2 (hborn x List.mem_cons_self))
      have : ((x :: l).map (Ent.me kv)).toArray.all (fun e => decide (e.born ≥ c)) = false := by
        rw [← Array.all_toList]
        simp only [List.map_cons, List.all_cons, h0, Bool.false_and]
      rw [this]
      simp
  generalize hleft : (l.filter fun e => !seen.contains e.born) = left
  have hmem : ∀ e ∈ left, e ∈ l ∧ e.born ∉ seen := fun e he => by
    rw [← hleft] at he
    have := List.mem_filter.1 he
    refine ⟨this.1, ?_⟩
    intro h
    have h2 := this.2
    simp [h] at h2
  have hold : ∀ e ∈ left, e.born < c := fun e he => hborn e (hmem e he).1
  have hf1 : ((l.map (Ent.me kv)).toArray.filter fun e => !seen.toArray.contains e.born) = (left.map (Ent.me kv)).toArray := by
    rw [arr_filter, filter_left, hleft]
  have hf2 : ((left.map (Ent.me kv)).toArray.filter fun e => decide (e.born < c)) = (left.map (Ent.me kv)).toArray := by
    rw [arr_filter, filter_old c left hold]
  have hf3 : ((left.map (Ent.me kv)).toArray.filter fun e => decide (e.born ≥ c)) = #[] := by
    rw [arr_filter, filter_new c left hold]
  cases hl : left with
  | nil =>
    refine .inl ⟨fun e he => ?_, ?_⟩
    · refine Classical.byContradiction fun hn => ?_
      have : e ∈ left := by
        rw [← hleft]
        exact List.mem_filter.2 ⟨he, by simp [hn]⟩
      rw [hl] at this
      cases this
    · subst hl
      simp only [Instr.next, Sem.run_bind, hg, Result.andThen_ok, run_getObj_map hb, hcond, Bool.false_eq_true, if_false, hf1, hf2, hf3]
      simp [Question.forced]
  | cons x xs =>
    have hne : (left.map (Ent.me kv)).toArray.isEmpty = false := by rw [hl]; rfl
    generalize hn : (left.map (Ent.me kv)).length = n
    -- the index that is chosen, and the world behind it
    have hch : ∃ (j : Nat) (w1 : World), j < n ∧ (choose (.mapNext n)).run Pr w = .ok j w1 ∧ w1.heap = w.heap ∧ w1.os = w.os ∧ w1.tape = w.tape ∧ w1.output = w.output := by
      have hn0 : 0 < n := by rw [← hn, hl]; simp
      rw [run_choose]
      split
      · exact ⟨0, w, hn0, rfl, rfl, rfl, rfl, rfl⟩
      · exact ⟨_, _, Nat.mod_lt _ hn0, rfl, rfl, rfl, rfl, rfl⟩
    obtain ⟨j, w1, hj, hrun, h1, h2, h3, h4⟩ := hch
    have hjl : j < left.length := by rw [← hn] at hj; simpa using hj
    refine .inr ⟨left[j], (hmem _ (List.getElem_mem hjl)).1, (hmem _ (List.getElem_mem hjl)).2, w1, h1, h2, h3, h4, ?_⟩
    have hcand : ((if (left.map (Ent.me kv)).toArray.isEmpty then #[none] else #[]) ++ (((left.map (Ent.me kv)).toArray ++ #[]).map some) : Array (Option MapEntry)) = ((left.map (Ent.me kv)).map some).toArray := by
      rw [hne]
      apply Array.ext'
      simp
    have hi1 : w1.heap[it]? = some (.mapIter (some m) c seen.toArray c) := by rw [h1]; exact hi
    have hset : (Go.setObj it (.mapIter (some m) c (seen.toArray.push (Ent.me kv left[j]).born) c)).run Pr w1 = .ok () { w1 with heap := w1.heap.setIfInBounds it (.mapIter (some m) c (seen.toArray.push left[j].born) c) } := by
      simp [Go.setObj, Sem.run, hi1, Ent.me]
    have hsz : (((left.map (Ent.me kv)).map some).toArray).size = n := by simpa using hn
    have hat : (((left.map (Ent.me kv)).map some).toArray)[j]? = some (some (Ent.me kv left[j])) := by simp [hjl]
    simp only [Instr.next, Sem.run_bind, hg, Result.andThen_ok, run_getObj_map hb, hcond, Bool.false_eq_true, if_false, hf1, hf2, hf3, hcand, hsz, hrun, hat, hset, Sem.run_pure]
    rfl

theorem Sep.next {it : Nat} {seen : List Nat} (hS : Sep E w (iterC it m c seen :: L)) (hm : mapC kv m l c ∈ L) (hborn : ∀ e ∈ l, e.born < c) {ty : TypeId} {over : World → Prop} {entry : Value → Value → World → Prop}
    (ho : (∀ e ∈ l, e.born ∈ seen) → over w)
    (he : ∀ e ∈ l, e.born ∉ seen → ∀ w', Sep E w' (iterC it m c (seen ++ [e.born]) :: L) → entry (kv e.k) e.v w') : NextM Pr (.pointer (some ⟨it, 0, none⟩)) ty w over entry := by
  have hb : w.heap[m]? = some (.map (l.map (Ent.me kv)).toArray c) := hS.at_ _ (List.mem_cons_of_mem _ hm)
  have hi : w.heap[it]? = some (.mapIter (some m) c seen.toArray c) := hS.at_ _ List.mem_cons_self
  unfold NextM
  rcases run_next hi hb hborn ty with ⟨h1, h2⟩ | ⟨e, hel, hes, w1, h1, h2, h3, h4, h5⟩
  · rw [h2]
    exact ho h1
  · rw [h5]
    refine he e hel hes _ ?_
    have hS1 : Sep E w1 (iterC it m c seen :: L) := ⟨h2.trans hS.os, h3.trans hS.tape, h4.trans hS.output, hS.uniq, fun x hx => by rw [h1]; exact hS.at_ x hx⟩
    have := hS1.setObj (o' := .mapIter (some m) c (seen.toArray.push e.born) c)
    simpa [iterC] using this

theorem Sep.entry {it : Nat} {seen : List Nat} {e : Ent K} (hS : Sep E w L) (hi : iterC it m c (seen ++ [e.born]) ∈ L) (hm : mapC kv m l c ∈ L) (he : e ∈ l) (hn : (l.map (·.born)).Nodup) :
    At Pr w (Instr.entry (.pointer (some ⟨it, 0, none⟩))) (.tuple #[kv e.k, e.v]) := by
  have hb : w.heap[m]? = some (.map (l.map (Ent.me kv)).toArray c) := hS.at_ _ hm
  have hi : w.heap[it]? = some (.mapIter (some m) c (seen ++ [e.born]).toArray c) := hS.at_ _ hi
  have hg : (Go.getObj it).run Pr w = .ok (.mapIter (some m) c (seen ++ [e.born]).toArray c) w := by simp [Go.getObj, Sem.run, hi]
  have hback : ((seen ++ [e.born]).toArray).back? = some e.born := by simp
  have hf := find_born (kv := kv) l e he hn
  have hf' : ((l.map (Ent.me kv)).toArray.find? fun x => x.born == e.born) = some (Ent.me kv e) := by
    simpa using hf
  unfold At
  simp only [Instr.entry, Sem.run_bind, hg, Result.andThen_ok, hback, run_getObj_map hb, bne_self_eq_false, Bool.false_eq_true, if_false, hf', Sem.run_pure]
  rfl

end
end Go.Proofs.Ytonjaaljnjjjcaa

/- Bytes, strings and keys in a heap assertion. Conditions: as each lemma says. -/
set_option linter.unusedVariables false
set_option linter.unusedSimpArgs false
namespace Go.Proofs.Ytonjaaljnjjjcaa
open Go Go.RowKit

def byteV (b : UInt8) : Value := .int .u8 (b.toNat : Int)

theorem byteV_one (l : List UInt8) : ∀ u ∈ l.map byteV, u.oneCell' = true := by
  intro u hu
  obtain ⟨b, _, rfl⟩ := List.mem_map.1 hu
  rfl

/-- A slice that reads as these bytes. -/
abbrev RdB (I : List Chunk) (s : SV) (l : List UInt8) : Prop := RdS I 1 s (l.map byteV)

theorem RdS.len1 {I : List Chunk} {s : SV} {l : List Value} (h : RdS I 1 s l) : s.len = l.length := by have := h.len; omega
theorem RdB.size {I : List Chunk} {s : SV} {l : List UInt8} (h : RdB I s l) : s.len = l.length := by have := h.len; simp at this; omega

def strOf (l : List UInt8) : ByteArray := ⟨l.toArray⟩

theorem strOf_data (s : ByteArray) : strOf s.data.toList = s := by
  cases s; rfl
theorem strOf_inj {l l' : List UInt8} : strOf l = strOf l' ↔ l = l' := by
  unfold strOf
  constructor
  · intro h
    injection h with h
    simpa using congrArg Array.toList h
  · rintro rfl; rfl
theorem toList_data (s : ByteArray) : s.toList = s.data.toList := ByteArray.toList_eq s

theorem ba_beq (a b : ByteArray) : (a == b) = decide (a = b) := by
  have h : (a == b) = (a.data == b.data) := rfl
  rw [h]
  cases a; cases b
  rename_i x y
  by_cases hxy : x = y
  · subst hxy; simp
  · rw [decide_eq_false (by simp only [ByteArray.mk.injEq]; exact hxy)]
    simp [hxy]
theorem toList_strOf (l : List UInt8) : (strOf l).toList = l := by rw [toList_data]; rfl
theorem size_strOf (l : List UInt8) : (strOf l).size = l.length := rfl

theorem foldl_push (l : List UInt8) : ∀ r : ByteArray, (l.map fun b => ((b.toNat : Nat) : Int)).foldl (fun r n => r.push (UInt8.ofNat n.toNat)) r = ⟨r.data ++ l.toArray⟩ := by
  induction l with
  | nil => intro r; simp
  | cons b l ih =>
    intro r
    rw [List.map_cons, List.foldl_cons, ih]
    simp [ByteArray.push]

theorem Sep.toStr {E w : World} {L I : List Chunk} (hS : Sep E w L) {s : SV} {l : List UInt8} (hr : RdB I s l) (hI : ∀ c ∈ I, c ∈ L) {st dt : TypeId}
    (h1 : Pr.underlying st = some (.slice 5)) (h2 : Pr.underlying dt = some .string) : At Pr w (convert st dt (.slice s.a s.len s.cap)) (.string (strOf l)) := by
  have hsrc := hr.src hS hI
  have he : Pr.underlying 5 = some (.int .u8) := by kernel_rfl
  unfold At
  rw [run_convert_bytes_string w st dt 5 s.a s.len s.cap h1 he h2]
  cases ha : s.a with
  | none =>
    have := hsrc.nil ha
    have hl : l = [] := List.eq_nil_of_length_eq_zero (by rw [← hr.size, this])
    subst hl
    simp [Conv.bytesToString, strOf]
    rfl
  | some a =>
    have hlen : s.len = l.length := hr.size
    have hmap : l.map byteV = (l.map fun b => ((b.toNat : Nat) : Int)).map (Value.int .u8) := by simp [byteV]
    have hload : (loadCells a s.len).run Pr w = .ok ((l.map fun b => ((b.toNat : Nat) : Int)).map (Value.int .u8)).toArray w := by
      rw [← hmap, hlen]
      have := run_loadCells_list (P := Pr) w a (l.map byteV) (fun j v hj => hsrc.at_ a ha j v hj)
      simpa using this
    rw [run_bytesToString w a s.len s.cap _ hload, foldl_push]
    simp [strOf]

/-! ### Keys -/
theorem findNow_str (k : ByteArray) : ∀ (l : List (Ent ByteArray)) (i : Nat), Instr.findNow .string (.string k) (l.map (Ent.me Value.string)) i = some (lookE k l i)
  | [], i => rfl
  | x :: l, i => by
    rw [List.map_cons]
    unfold Instr.findNow lookE
    simp only [Ent.me, Instr.sameNow]
    by_cases h : x.k = k
    · rw [if_pos h, h]
      rw [ba_beq, decide_eq_true rfl]
    · rw [if_neg h]
      have hb : (k == x.k) = false := by
        rw [ba_beq]
        exact decide_eq_false fun e => h e.symm
      rw [hb]
      exact findNow_str k l (i + 1)

theorem keyOk_str {kt : TypeId} (hu : Pr.underlying kt = some .string) (w : World) (l : List (Ent ByteArray)) (k : ByteArray) : KeyOk Pr kt Value.string w l k := by
  refine ⟨?_, fun e => ?_, ?_⟩
  · simp only [Instr.findKey, Sem.run_bind, run_underlying hu, Result.andThen_ok]
    rw [findNow_str]
    rfl
  · have : ∀ n, (Instr.checkKey e (n + 1) kt (.string k)).run Pr w = .ok () w := fun n => by
      unfold Instr.checkKey
      simp only [Sem.run_bind, run_underlying hu, Result.andThen_ok]
      rfl
    exact this 9999
  · have : ∀ n, Instr.sameBits n (.string k) (.string k) = true := fun n => by
      have h : (k == k) = true := by rw [ba_beq]; exact decide_eq_true rfl
      cases n <;> simp [Instr.sameBits, h]
    exact this 10000

theorem ba_eq_toList (a b : ByteArray) : (a.toList == b.toList) = decide (a = b) := by
  rw [toList_data, toList_data]
  cases a; cases b
  rename_i x y
  have h : (x.toList = y.toList) ↔ x = y := ⟨fun h => Array.ext' h, fun h => by rw [h]⟩
  by_cases hxy : x = y
  · subst hxy
    simp
  · rw [decide_eq_false (by simp only [ByteArray.mk.injEq]; exact hxy)]
    simp only [beq_eq_false_iff_ne, ne_eq]
    exact fun e => hxy (h.1 e)

/-! ### Keys that are pointers to blocks of cells -/
def ptrV (b : Nat) : Value := .pointer (some ⟨b, 0, none⟩)

/-- Blocks of cells that nobody froze. -/
def Plain (w : World) (b : Nat) : Prop := ∃ cs T, w.heap[b]? = some (.cells cs T (0, 0))

theorem run_sameAddr_plain {w : World} {a b : Nat} (ha : Plain w a) (hb : Plain w b) : (sameAddr ⟨a, 0, none⟩ ⟨b, 0, none⟩).run Pr w = .ok (decide (a = b)) w := by
  obtain ⟨ca, ta, ha⟩ := ha
  obtain ⟨cb, tb, hb⟩ := hb
  by_cases h : a = b
  · subst h
    simp [sameAddr]
  · have h0 : (a == b) = false := by simp [h]
    simp [sameAddr, h0, h, World.frozen?, ha, hb, noView, viewAt, World.shape?, mayBeOne, stringish]

theorem run_equal_ptr {w : World} {pt e : TypeId} {n : Nat} (hu : Pr.underlying pt = some (.pointer e)) (hs : sizeOf? Pr e = some (n + 1)) {a b : Nat} (ha : Plain w a) (hb : Plain w b) :
    (Op.equal pt (ptrV a) (ptrV b)).run Pr w = .ok (decide (a = b)) w := by
  have h : ∀ d, (Op.equalIn (d + 1) pt (ptrV a) (ptrV b)).run Pr w = .ok (decide (a = b)) w := fun d => by
    simp only [Op.equalIn, ptrV, Sem.run_bind, run_underlying hu, Result.andThen_ok, run_sizeOf_of hs]
    simp [run_sameAddr_plain ha hb]
  exact h 9999

theorem findAsking_ptr {w : World} {pt e : TypeId} {n : Nat} (hu : Pr.underlying pt = some (.pointer e)) (hs : sizeOf? Pr e = some (n + 1)) {k : Nat} (hk : Plain w k) :
    ∀ (l : List (Ent Nat)) (i : Nat), (∀ x ∈ l, Plain w x.k) → (Instr.findAsking pt (ptrV k) (l.map (Ent.me ptrV)) i).run Pr w = .ok (lookE k l i) w
  | [], i, _ => by simp [Instr.findAsking, lookE]
  | x :: l, i, hl => by
    rw [List.map_cons]
    unfold Instr.findAsking lookE
    simp only [Ent.me, Sem.run_bind, run_equal_ptr hu hs hk (hl x List.mem_cons_self), Result.andThen_ok]
    by_cases h : x.k = k
    · rw [if_pos h]
      simp [h]
    · rw [if_neg h]
      have h' : ¬ k = x.k := fun e => h e.symm
      simp only [h', decide_false, Bool.false_eq_true, if_false]
      exact findAsking_ptr hu hs hk l (i + 1) fun y hy => hl y (List.mem_cons_of_mem _ hy)

theorem keyOk_ptr {w : World} {pt e : TypeId} {n : Nat} (hu : Pr.underlying pt = some (.pointer e)) (hs : sizeOf? Pr e = some (n + 1)) {k : Nat} {l : List (Ent Nat)} (hk : Plain w k) (hl : ∀ x ∈ l, Plain w x.k) : KeyOk Pr pt ptrV w l k := by
  refine ⟨?_, fun em => ?_, ?_⟩
  · simp only [Instr.findKey, Sem.run_bind, run_underlying hu, Result.andThen_ok]
    cases l with
    | nil => rfl
    | cons x l =>
      have h0 : Instr.findNow (.pointer e) (ptrV k) ((x :: l).map (Ent.me ptrV)) 0 = none := rfl
      rw [h0]
      exact findAsking_ptr hu hs hk (x :: l) 0 hl
  · have : ∀ n, (Instr.checkKey em (n + 1) pt (ptrV k)).run Pr w = .ok () w := fun n => by
      unfold Instr.checkKey
      simp only [Sem.run_bind, run_underlying hu, Result.andThen_ok]
      rfl
    exact this 9999
  · have : ∀ n, Instr.sameBits n (ptrV k) (ptrV k) = true := fun n => by
      cases n <;> simp [Instr.sameBits, ptrV]
    exact this 10000

theorem Sep.plain {E w : World} {L : List Chunk} (hS : Sep E w L) {b : Nat} {cs : Array Value} {T : TypeId} (hc : (b, Obj.cells cs T (0, 0)) ∈ L) : Plain w b := ⟨cs, T, hS.at_ _ hc⟩

end Go.Proofs.Ytonjaaljnjjjcaa

/- Helpers for contracts. Conditions: as each lemma says. -/
set_option linter.unusedVariables false
set_option linter.unusedSimpArgs false
namespace Go.Proofs.Ytonjaaljnjjjcaa
open Go Go.RowKit


theorem w64 {n : Int} (h : -9223372036854775808 ≤ n) (h' : n ≤ 9223372036854775807) : IntKind.wrap .i64 n = n := by rw [IntKind.wrap_i64]; omega

theorem cutAt_zero (a : Option Addr) (m s : Nat) : cutAt a 0 m s = a := by
  unfold cutAt
  split
  · rfl
  · cases a with
    | none => rfl
    | some a =>
      obtain ⟨b, o, sp⟩ := a
      cases sp <;> simp [Addr.add]

theorem at_nilslice {t T : TypeId} (ht : Pr.underlying t = some (.slice T)) (w : World) (a : Option Addr) (l c : Nat) {x y : Operand} :
    At Pr w (do eqGuard .eql t x y (.slice a l c) (.slice none 0 0); binOp .eql t (.slice a l c) (.slice none 0 0)) (.bool a.isNone) := by
  unfold At
  have h : ∀ d, (Op.equalIn (d + 1) t (.slice a l c) (.slice none 0 0)).run Pr w = .ok a.isNone w := fun d => by
    cases a <;> simp [Op.equalIn, run_underlying ht]
  have h' : (Op.equal t (.slice a l c) (.slice none 0 0)).run Pr w = .ok a.isNone w := h 9999
  simp [eqGuard, binOp, h']

theorem tiB : TI 26 5 1 1 (.int .u8 0) := ⟨by kernel_rfl, by kernel_rfl, rfl, by decide⟩
theorem tiBB : TI 22 26 1 24 (.slice none 0 0) := ⟨by kernel_rfl, by kernel_rfl, rfl, by decide⟩

theorem RdS.idx {I : List Chunk} {s : SV} {xs : List Value} (h : RdS I 1 s xs) {i : Nat} {v : Value} (hv : xs[i]? = some v) {E w : World} {L : List Chunk} (hS : Sep E w L) (hI : ∀ c ∈ I, c ∈ L) {t : TypeId} (ht : oneT Pr t = true) :
    ∃ a, s.a = some a ∧ At Pr w (loadVar t (a.add (i * 1))) v := by
  cases ha : s.a with
  | none =>
    have h0 := h.nil ha
    have h1 := h.len1
    have : i < xs.length := (List.getElem?_eq_some_iff.1 hv).1
    omega
  | some a =>
    refine ⟨a, rfl, ?_⟩
    obtain ⟨b, o, sp⟩ := a
    rcases h.at_ _ ha with h0 | ⟨hsp, cs, T, fr, hc, hv'⟩
    · have h1 := h.len1
      have : i < xs.length := (List.getElem?_eq_some_iff.1 hv).1
      omega
    · simp only at hsp
      subst hsp
      rw [Nat.mul_one, addr_add]
      exact hS.load (hI _ hc) (hv' i v hv) ht

theorem RdS.cut {I : List Chunk} {sz : Nat} {s : SV} {xs : List Value} (hr : RdS I sz s xs) {l h m : Nat} (hl : l ≤ h) (hh : h ≤ s.len) (hm : h ≤ m) (hm' : m ≤ s.cap) :
    RdS I sz ⟨cutAt s.a l m sz, h - l, m - l⟩ ((xs.drop (l * sz)).take ((h - l) * sz)) := by
  have hmul : (h - l) * sz ≤ xs.length - l * sz := by
    rw [hr.len, ← Nat.sub_mul]
    exact Nat.mul_le_mul_right _ (by omega)
  refine ⟨?_, by show h - l ≤ m - l; omega, fun ha => ?_, fun a ha => ?_⟩
  · simp only [List.length_take, List.length_drop]
    omega
  · show h - l = 0
    simp only [cutAt] at ha
    split at ha
    · omega
    · have := hr.nil (by simpa using ha)
      omega
  · simp only [cutAt] at ha
    split at ha
    · exact .inl (by show h - l = 0; omega)
    · cases ha' : s.a with
      | none => rw [ha'] at ha; cases ha
      | some b =>
        rw [ha'] at ha
        simp only [Option.map_some, Option.some.injEq] at ha
        rcases hr.at_ b ha' with h0 | ⟨h1, cs, T, fr, hc, hv⟩
        · exact .inl (by show h - l = 0; omega)
        · obtain ⟨bb, bo, bs⟩ := b
          simp only at h1
          subst h1
          rw [addr_add] at ha
          subst ha
          refine .inr ⟨rfl, cs, T, fr, hc, fun j u hu => ?_⟩
          rw [List.getElem?_take] at hu
          split at hu
          · rw [List.getElem?_drop] at hu
            have := hv _ _ hu
            simpa [Nat.add_assoc] using this
          · cases hu

theorem RdB.cut {I : List Chunk} {s : SV} {xs : List UInt8} (hr : RdB I s xs) {l h m : Nat} (hl : l ≤ h) (hh : h ≤ s.len) (hm : h ≤ m) (hm' : m ≤ s.cap) :
    RdB I ⟨cutAt s.a l m 1, h - l, m - l⟩ ((xs.drop l).take (h - l)) := by
  have := RdS.cut hr hl hh hm hm'
  rw [Nat.mul_one, Nat.mul_one, ← List.map_drop, ← List.map_take] at this
  exact this

theorem RdS.none (I : List Chunk) (sz : Nat) : RdS I sz SV.nil [] := ⟨by simp [SV.nil], Nat.le_refl _, fun _ => rfl, fun a ha => by cases ha⟩

theorem Own.rdl {T sz : Nat} {s : SV} {vs : List Value} {C : List Chunk} (h : Own T sz s vs C) (L : List Chunk) : RdS (C ++ L) sz s vs := h.rds.mono fun c hc => List.mem_append_left _ hc
theorem RdS.left {I : List Chunk} {sz : Nat} {s : SV} {xs : List Value} (h : RdS I sz s xs) (C : List Chunk) : RdS (I ++ C) sz s xs := h.mono fun c hc => List.mem_append_left _ hc
theorem RdS.right {I : List Chunk} {sz : Nat} {s : SV} {xs : List Value} (h : RdS I sz s xs) (C : List Chunk) : RdS (C ++ I) sz s xs := h.mono fun c hc => List.mem_append_right _ hc
theorem RdS.tail {I : List Chunk} {sz : Nat} {s : SV} {xs : List Value} (h : RdS I sz s xs) (C : Chunk) : RdS (C :: I) sz s xs := h.mono fun c hc => List.mem_cons_of_mem _ hc

/-- Slices that read as lists of bytes. -/
def RdBs (I : List Chunk) (ss : List SV) (ls : List (List UInt8)) : Prop := ss.length = ls.length ∧ ∀ (i : Nat) (s : SV) (l : List UInt8), ss[i]? = some s → ls[i]? = some l → RdB I s l

theorem RdBs.mono {I I' : List Chunk} {ss : List SV} {ls : List (List UInt8)} (h : RdBs I ss ls) (hI : ∀ c ∈ I, c ∈ I') : RdBs I' ss ls := ⟨h.1, fun i s l hs hl => (h.2 i s l hs hl).mono hI⟩
theorem RdBs.nil (I : List Chunk) : RdBs I [] [] := ⟨rfl, fun i s l hs => by simp at hs⟩
theorem RdBs.cons {I : List Chunk} {s : SV} {l : List UInt8} {ss : List SV} {ls : List (List UInt8)} (h : RdB I s l) (hs : RdBs I ss ls) : RdBs I (s :: ss) (l :: ls) :=
  ⟨by simp [hs.1], fun i s' l' h1 h2 => by
    cases i with
    | zero => simp at h1 h2; subst h1; subst h2; exact h
    | succ i => exact hs.2 i s' l' (by simpa using h1) (by simpa using h2)⟩
theorem RdBs.append {I : List Chunk} {ss ss' : List SV} {ls ls' : List (List UInt8)} (h : RdBs I ss ls) (h' : RdBs I ss' ls') : RdBs I (ss ++ ss') (ls ++ ls') :=
  ⟨by simp [h.1, h'.1], fun i s l h1 h2 => by
    rw [List.getElem?_append] at h1 h2
    rw [h.1] at h1
    split at h1
    · rename_i hi
      rw [if_pos hi] at h2
      exact h.2 i s l h1 h2
    · rename_i hi
      rw [if_neg hi] at h2
      exact h'.2 _ s l h1 h2⟩

abbrev slV (s : SV) : Value := .slice s.a s.len s.cap
theorem slV_one (ss : List SV) : ∀ u ∈ ss.map slV, u.oneCell' = true := by
  intro u hu
  obtain ⟨b, _, rfl⟩ := List.mem_map.1 hu
  rfl

end Go.Proofs.Ytonjaaljnjjjcaa

/- What 'vc' of these functions comes to, and their calls by it. Printed by dec.py. -/
set_option linter.unusedVariables false
set_option linter.unusedSimpArgs false
namespace Go.Proofs.Ytonjaaljnjjjcaa
open Go

/-- creel/creellaw13.RunNil -/
def ir4 (x0 : SV) (x1 : ByteArray) (w0 : World) (R : Value → World → Prop) : Prop :=
  Calls Pr 20 #[] w0 fun e1 w1 =>
    ∃ (b1 : Bool),
    e1 = .returned (.bool b1) ∧
    Calls Pr 21 #[(.pointer none)] w1 fun e2 w2 =>
      ∃ (s1 : SV) (b2 : Bool) (n1 : Int),
      e2 = .returned (.tuple #[(.agg #[(.slice s1.a s1.len s1.cap), (.bool b2)]), (.int .i64 n1)]) ∧
      ∃ (a1 : Addr) (w3 : World),
      Sem.run Pr (Instr.alloc 34 true (.tuple #[])) w2 = .ok (.pointer (some a1)) w3 ∧
      ∃ (w4 : World),
      Sem.run Pr (Instr.storeAt 34 (.pointer (some a1)) (.agg #[(.slice s1.a s1.len s1.cap), (.bool b2)])) w3 = .ok () w4 ∧
      brc (b1)
        (Calls Pr 22 #[(.pointer none), (.slice x0.a x0.len x0.cap)] w4 fun e3 w5 =>
            ∃ (n2 : Int),
            e3 = .returned (.int .i64 n2) ∧
            brc (n2 == (2 : Int))
              (Calls Pr 23 #[(.pointer none), (.string x1)] w5 fun e4 w6 =>
                  ∃ (n3 : Int),
                  e4 = .returned (.int .i64 n3) ∧
                  brc (n3 == (2 : Int))
                    (Calls Pr 24 #[(.pointer none)] w6 fun e5 w7 =>
                        ∃ (n4 : Int),
                        e5 = .returned (.int .i64 n4) ∧
                        brc (n4 == (0 : Int))
                          (∃ (b3 : Bool),
                            At Pr w7 (loadVar 4 (Addr.add a1 1)) (.bool b3) ∧
                            brc (!b3)
                              (R (.bool (n1 == (2 : Int))) w7)
                              (R (.bool false) w7))
                          (R (.bool false) w7))
                    (R (.bool false) w6))
              (R (.bool false) w5))
        (R (.bool false) w4)

theorem call4 {x0 : SV} {x1 : ByteArray} {w0 : World} {R : Ending → World → Prop} (h : ir4 x0 x1 w0 fun v w => R (.returned v) w) : Calls Pr 4 #[.slice x0.a x0.len x0.cap, .string x1] w0 R := by
  refine calls_of_vc (ann := []) (E := []) (args := [.slice x0.a x0.len x0.cap, .string x1]) follows Try.func4 rfl (by kernel_rfl) ?_
  apply by_eq h
  kernel_rfl

/-- creel/creellaw13.shown -/
def ir20 (w0 : World) (R : Value → World → Prop) : Prop :=
  Calls Pr 25 #[(.int .i64 100)] w0 fun e1 w1 =>
    ∃ (p1 : Option Addr),
    e1 = .returned (.pointer p1) ∧
    Calls Pr 27 #[(.pointer p1)] w1 fun e2 w2 =>
      ∃ (p2 : Option Addr) (n1 : Int),
      e2 = .returned (.tuple #[(.pointer p2), (.int .i64 n1)]) ∧
      brc (Option.isNone p2)
        (R (.bool false) w2)
        (brc (n1 != (0 : Int))
            (R (.bool false) w2)
            (∃ (s1 : SV) (w3 : World),
              Sem.run Pr (Instr.buildSlice 26 1 #[(0, (.int .u8 97))]) w2 = .ok (.slice s1.a s1.len s1.cap) w3 ∧
              ∃ (s2 : SV) (w4 : World),
              Sem.run Pr (convert 26 26 (.slice s1.a s1.len s1.cap)) w3 = .ok (.slice s2.a s2.len s2.cap) w4 ∧
              Calls Pr 22 #[(.pointer p2), (.slice s2.a s2.len s2.cap)] w4 fun e3 w5 =>
                ∃ (n2 : Int),
                e3 = .returned (.int .i64 n2) ∧
                brc (n2 != (0 : Int))
                  (R (.bool false) w5)
                  (∃ (s3 : SV) (w6 : World),
                    Sem.run Pr (Instr.buildSlice 26 1 #[(0, (.int .u8 97))]) w5 = .ok (.slice s3.a s3.len s3.cap) w6 ∧
                    ∃ (s4 : SV) (w7 : World),
                    Sem.run Pr (convert 26 26 (.slice s3.a s3.len s3.cap)) w6 = .ok (.slice s4.a s4.len s4.cap) w7 ∧
                    Calls Pr 22 #[(.pointer p2), (.slice s4.a s4.len s4.cap)] w7 fun e4 w8 =>
                      ∃ (n3 : Int),
                      e4 = .returned (.int .i64 n3) ∧
                      brc (n3 != (130 : Int))
                        (R (.bool false) w8)
                        (∃ (s5 : SV) (w9 : World),
                          Sem.run Pr (Instr.buildSlice 26 1 #[(0, (.int .u8 98))]) w8 = .ok (.slice s5.a s5.len s5.cap) w9 ∧
                          ∃ (s6 : SV) (w10 : World),
                          Sem.run Pr (convert 26 26 (.slice s5.a s5.len s5.cap)) w9 = .ok (.slice s6.a s6.len s6.cap) w10 ∧
                          Calls Pr 22 #[(.pointer p2), (.slice s6.a s6.len s6.cap)] w10 fun e5 w11 =>
                            ∃ (n4 : Int),
                            e5 = .returned (.int .i64 n4) ∧
                            brc (n4 != (0 : Int))
                              (R (.bool false) w11)
                              (Calls Pr 23 #[(.pointer p2), (.string (⟨#[120]⟩ : ByteArray))] w11 fun e6 w12 =>
                                  ∃ (n5 : Int),
                                  e6 = .returned (.int .i64 n5) ∧
                                  brc (n5 != (0 : Int))
                                    (R (.bool false) w12)
                                    (Calls Pr 28 #[(.pointer p1), (.string (⟨#[120]⟩ : ByteArray))] w12 fun e7 w13 =>
                                        ∃ (s7 : SV) (n6 : Int),
                                        e7 = .returned (.tuple #[(.slice s7.a s7.len s7.cap), (.int .i64 n6)]) ∧
                                        ∃ (S1 : World → Prop),
                                        S1 (World.drew w13) ∧
                                        brc (n6 == (0 : Int))
                                          (∃ (str1 : ByteArray),
                                            AtS Pr S1 (convert 26 9 (.slice s7.a s7.len s7.cap)) (.string str1) ∧
                                            (∃ (s8 : SV) (w14 : World),
                                            Sem.run Pr (Instr.buildSlice 26 1 #[(0, (.int .u8 97))]) (World.drew w13) = .ok (.slice s8.a s8.len s8.cap) w14 ∧
                                            ∃ (S2 : World → Prop),
                                            (∀ w, S2 w → S1 w) ∧
                                            S2 w14 ∧
                                            (∃ (s9 : SV) (w15 : World),
                                            Sem.run Pr (convert 26 26 (.slice s8.a s8.len s8.cap)) w14 = .ok (.slice s9.a s9.len s9.cap) w15 ∧
                                            ∃ (S3 : World → Prop),
                                            (∀ w, S3 w → S2 w) ∧
                                            S3 w15 ∧
                                            ∃ (s10 : SV) (w16 : World),
                                            Sem.run Pr (Instr.buildSlice 26 1 #[(0, (.int .u8 98))]) w15 = .ok (.slice s10.a s10.len s10.cap) w16 ∧
                                            ∃ (S4 : World → Prop),
                                            (∀ w, S4 w → S3 w) ∧
                                            S4 w16 ∧
                                            ∃ (s11 : SV) (w17 : World),
                                            Sem.run Pr (convert 26 26 (.slice s10.a s10.len s10.cap)) w16 = .ok (.slice s11.a s11.len s11.cap) w17 ∧
                                            ∃ (S5 : World → Prop),
                                            (∀ w, S5 w → S4 w) ∧
                                            S5 w17 ∧
                                            ∃ (s12 : SV) (w18 : World),
                                            Sem.run Pr (Instr.buildSlice 22 2 #[(0, (.slice s9.a s9.len s9.cap)), (1, (.slice s11.a s11.len s11.cap))]) w17 = .ok (.slice s12.a s12.len s12.cap) w18 ∧
                                            ∃ (S6 : World → Prop),
                                            (∀ w, S6 w → S5 w) ∧
                                            S6 w18 ∧
                                            Calls Pr 66 #[(.slice s12.a s12.len s12.cap)] w18 fun e8 w19 =>
                                              ∃ (s13 : SV),
                                              e8 = .returned (.slice s13.a s13.len s13.cap) ∧
                                              ∃ (S7 : World → Prop),
                                              (∀ w, S7 w → S6 w) ∧
                                              S7 w19 ∧
                                              ∃ (str2 : ByteArray),
                                              AtS Pr S7 (convert 26 9 (.slice s13.a s13.len s13.cap)) (.string str2) ∧
                                              brc ((ByteArray.toList str1 == ByteArray.toList str2))
                                                (Calls Pr 24 #[(.pointer p2)] w19 fun e9 w20 =>
                                                    ∃ (n7 : Int),
                                                    e9 = .returned (.int .i64 n7) ∧
                                                    ∃ (S8 : World → Prop),
                                                    (∀ w, S8 w → S7 w) ∧
                                                    S8 w20 ∧
                                                    R (.bool (n7 == (2 : Int))) w20)
                                                (R (.bool false) w19)) ∧
                                            ∃ (s14 : SV) (w21 : World),
                                            Sem.run Pr (Instr.buildSlice 26 1 #[(0, (.int .u8 98))]) w14 = .ok (.slice s14.a s14.len s14.cap) w21 ∧
                                            ∃ (S9 : World → Prop),
                                            (∀ w, S9 w → S2 w) ∧
                                            S9 w21 ∧
                                            (∃ (s15 : SV) (w22 : World),
                                            Sem.run Pr (convert 26 26 (.slice s8.a s8.len s8.cap)) w21 = .ok (.slice s15.a s15.len s15.cap) w22 ∧
                                            ∃ (S10 : World → Prop),
                                            (∀ w, S10 w → S9 w) ∧
                                            S10 w22 ∧
                                            ∃ (s16 : SV) (w23 : World),
                                            Sem.run Pr (convert 26 26 (.slice s14.a s14.len s14.cap)) w22 = .ok (.slice s16.a s16.len s16.cap) w23 ∧
                                            ∃ (S11 : World → Prop),
                                            (∀ w, S11 w → S10 w) ∧
                                            S11 w23 ∧
                                            ∃ (s17 : SV) (w24 : World),
                                            Sem.run Pr (Instr.buildSlice 22 2 #[(0, (.slice s15.a s15.len s15.cap)), (1, (.slice s16.a s16.len s16.cap))]) w23 = .ok (.slice s17.a s17.len s17.cap) w24 ∧
                                            ∃ (S12 : World → Prop),
                                            (∀ w, S12 w → S11 w) ∧
                                            S12 w24 ∧
                                            Calls Pr 66 #[(.slice s17.a s17.len s17.cap)] w24 fun e10 w25 =>
                                              ∃ (s18 : SV),
                                              e10 = .returned (.slice s18.a s18.len s18.cap) ∧
                                              ∃ (S13 : World → Prop),
                                              (∀ w, S13 w → S12 w) ∧
                                              S13 w25 ∧
                                              ∃ (str3 : ByteArray),
                                              AtS Pr S13 (convert 26 9 (.slice s18.a s18.len s18.cap)) (.string str3) ∧
                                              brc ((ByteArray.toList str1 == ByteArray.toList str3))
                                                (Calls Pr 24 #[(.pointer p2)] w25 fun e11 w26 =>
                                                    ∃ (n8 : Int),
                                                    e11 = .returned (.int .i64 n8) ∧
                                                    ∃ (S14 : World → Prop),
                                                    (∀ w, S14 w → S13 w) ∧
                                                    S14 w26 ∧
                                                    R (.bool (n8 == (2 : Int))) w26)
                                                (R (.bool false) w25)) ∧
                                            ∃ (s19 : SV) (w27 : World),
                                            Sem.run Pr (convert 26 26 (.slice s14.a s14.len s14.cap)) w21 = .ok (.slice s19.a s19.len s19.cap) w27 ∧
                                            ∃ (S15 : World → Prop),
                                            (∀ w, S15 w → S9 w) ∧
                                            S15 w27 ∧
                                            ∃ (s20 : SV) (w28 : World),
                                            Sem.run Pr (convert 26 26 (.slice s8.a s8.len s8.cap)) w27 = .ok (.slice s20.a s20.len s20.cap) w28 ∧
                                            ∃ (S16 : World → Prop),
                                            (∀ w, S16 w → S15 w) ∧
                                            S16 w28 ∧
                                            ∃ (s21 : SV) (w29 : World),
                                            Sem.run Pr (Instr.buildSlice 22 2 #[(0, (.slice s20.a s20.len s20.cap)), (1, (.slice s19.a s19.len s19.cap))]) w28 = .ok (.slice s21.a s21.len s21.cap) w29 ∧
                                            ∃ (S17 : World → Prop),
                                            (∀ w, S17 w → S16 w) ∧
                                            S17 w29 ∧
                                            Calls Pr 66 #[(.slice s21.a s21.len s21.cap)] w29 fun e12 w30 =>
                                              ∃ (s22 : SV),
                                              e12 = .returned (.slice s22.a s22.len s22.cap) ∧
                                              ∃ (S18 : World → Prop),
                                              (∀ w, S18 w → S17 w) ∧
                                              S18 w30 ∧
                                              ∃ (str4 : ByteArray),
                                              AtS Pr S18 (convert 26 9 (.slice s22.a s22.len s22.cap)) (.string str4) ∧
                                              brc ((ByteArray.toList str1 == ByteArray.toList str4))
                                                (Calls Pr 24 #[(.pointer p2)] w30 fun e13 w31 =>
                                                    ∃ (n9 : Int),
                                                    e13 = .returned (.int .i64 n9) ∧
                                                    ∃ (S19 : World → Prop),
                                                    (∀ w, S19 w → S18 w) ∧
                                                    S19 w31 ∧
                                                    R (.bool (n9 == (2 : Int))) w31)
                                                (R (.bool false) w30)) ∧
                                            ∃ (s23 : SV) (w32 : World),
                                            Sem.run Pr (Instr.buildSlice 26 1 #[(0, (.int .u8 98))]) (World.drew w13) = .ok (.slice s23.a s23.len s23.cap) w32 ∧
                                            ∃ (S20 : World → Prop),
                                            (∀ w, S20 w → S1 w) ∧
                                            S20 w32 ∧
                                            (∃ (s24 : SV) (w33 : World),
                                            Sem.run Pr (Instr.buildSlice 26 1 #[(0, (.int .u8 97))]) w32 = .ok (.slice s24.a s24.len s24.cap) w33 ∧
                                            ∃ (S21 : World → Prop),
                                            (∀ w, S21 w → S20 w) ∧
                                            S21 w33 ∧
                                            (∃ (s25 : SV) (w34 : World),
                                            Sem.run Pr (convert 26 26 (.slice s24.a s24.len s24.cap)) w33 = .ok (.slice s25.a s25.len s25.cap) w34 ∧
                                            ∃ (S22 : World → Prop),
                                            (∀ w, S22 w → S21 w) ∧
                                            S22 w34 ∧
                                            ∃ (s26 : SV) (w35 : World),
                                            Sem.run Pr (convert 26 26 (.slice s23.a s23.len s23.cap)) w34 = .ok (.slice s26.a s26.len s26.cap) w35 ∧
                                            ∃ (S23 : World → Prop),
                                            (∀ w, S23 w → S22 w) ∧
                                            S23 w35 ∧
                                            ∃ (s27 : SV) (w36 : World),
                                            Sem.run Pr (Instr.buildSlice 22 2 #[(0, (.slice s25.a s25.len s25.cap)), (1, (.slice s26.a s26.len s26.cap))]) w35 = .ok (.slice s27.a s27.len s27.cap) w36 ∧
                                            ∃ (S24 : World → Prop),
                                            (∀ w, S24 w → S23 w) ∧
                                            S24 w36 ∧
                                            Calls Pr 66 #[(.slice s27.a s27.len s27.cap)] w36 fun e14 w37 =>
                                              ∃ (s28 : SV),
                                              e14 = .returned (.slice s28.a s28.len s28.cap) ∧
                                              ∃ (S25 : World → Prop),
                                              (∀ w, S25 w → S24 w) ∧
                                              S25 w37 ∧
                                              ∃ (str5 : ByteArray),
                                              AtS Pr S25 (convert 26 9 (.slice s28.a s28.len s28.cap)) (.string str5) ∧
                                              brc ((ByteArray.toList str1 == ByteArray.toList str5))
                                                (Calls Pr 24 #[(.pointer p2)] w37 fun e15 w38 =>
                                                    ∃ (n10 : Int),
                                                    e15 = .returned (.int .i64 n10) ∧
                                                    ∃ (S26 : World → Prop),
                                                    (∀ w, S26 w → S25 w) ∧
                                                    S26 w38 ∧
                                                    R (.bool (n10 == (2 : Int))) w38)
                                                (R (.bool false) w37)) ∧
                                            ∃ (s29 : SV) (w39 : World),
                                            Sem.run Pr (convert 26 26 (.slice s23.a s23.len s23.cap)) w33 = .ok (.slice s29.a s29.len s29.cap) w39 ∧
                                            ∃ (S27 : World → Prop),
                                            (∀ w, S27 w → S21 w) ∧
                                            S27 w39 ∧
                                            ∃ (s30 : SV) (w40 : World),
                                            Sem.run Pr (convert 26 26 (.slice s24.a s24.len s24.cap)) w39 = .ok (.slice s30.a s30.len s30.cap) w40 ∧
                                            ∃ (S28 : World → Prop),
                                            (∀ w, S28 w → S27 w) ∧
                                            S28 w40 ∧
                                            ∃ (s31 : SV) (w41 : World),
                                            Sem.run Pr (Instr.buildSlice 22 2 #[(0, (.slice s30.a s30.len s30.cap)), (1, (.slice s29.a s29.len s29.cap))]) w40 = .ok (.slice s31.a s31.len s31.cap) w41 ∧
                                            ∃ (S29 : World → Prop),
                                            (∀ w, S29 w → S28 w) ∧
                                            S29 w41 ∧
                                            Calls Pr 66 #[(.slice s31.a s31.len s31.cap)] w41 fun e16 w42 =>
                                              ∃ (s32 : SV),
                                              e16 = .returned (.slice s32.a s32.len s32.cap) ∧
                                              ∃ (S30 : World → Prop),
                                              (∀ w, S30 w → S29 w) ∧
                                              S30 w42 ∧
                                              ∃ (str6 : ByteArray),
                                              AtS Pr S30 (convert 26 9 (.slice s32.a s32.len s32.cap)) (.string str6) ∧
                                              brc ((ByteArray.toList str1 == ByteArray.toList str6))
                                                (Calls Pr 24 #[(.pointer p2)] w42 fun e17 w43 =>
                                                    ∃ (n11 : Int),
                                                    e17 = .returned (.int .i64 n11) ∧
                                                    ∃ (S31 : World → Prop),
                                                    (∀ w, S31 w → S30 w) ∧
                                                    S31 w43 ∧
                                                    R (.bool (n11 == (2 : Int))) w43)
                                                (R (.bool false) w42)) ∧
                                            ∃ (s33 : SV) (w44 : World),
                                            Sem.run Pr (convert 26 26 (.slice s23.a s23.len s23.cap)) w32 = .ok (.slice s33.a s33.len s33.cap) w44 ∧
                                            ∃ (S32 : World → Prop),
                                            (∀ w, S32 w → S20 w) ∧
                                            S32 w44 ∧
                                            ∃ (s34 : SV) (w45 : World),
                                            Sem.run Pr (Instr.buildSlice 26 1 #[(0, (.int .u8 97))]) w44 = .ok (.slice s34.a s34.len s34.cap) w45 ∧
                                            ∃ (S33 : World → Prop),
                                            (∀ w, S33 w → S32 w) ∧
                                            S33 w45 ∧
                                            ∃ (s35 : SV) (w46 : World),
                                            Sem.run Pr (convert 26 26 (.slice s34.a s34.len s34.cap)) w45 = .ok (.slice s35.a s35.len s35.cap) w46 ∧
                                            ∃ (S34 : World → Prop),
                                            (∀ w, S34 w → S33 w) ∧
                                            S34 w46 ∧
                                            ∃ (s36 : SV) (w47 : World),
                                            Sem.run Pr (Instr.buildSlice 22 2 #[(0, (.slice s35.a s35.len s35.cap)), (1, (.slice s33.a s33.len s33.cap))]) w46 = .ok (.slice s36.a s36.len s36.cap) w47 ∧
                                            ∃ (S35 : World → Prop),
                                            (∀ w, S35 w → S34 w) ∧
                                            S35 w47 ∧
                                            Calls Pr 66 #[(.slice s36.a s36.len s36.cap)] w47 fun e18 w48 =>
                                              ∃ (s37 : SV),
                                              e18 = .returned (.slice s37.a s37.len s37.cap) ∧
                                              ∃ (S36 : World → Prop),
                                              (∀ w, S36 w → S35 w) ∧
                                              S36 w48 ∧
                                              ∃ (str7 : ByteArray),
                                              AtS Pr S36 (convert 26 9 (.slice s37.a s37.len s37.cap)) (.string str7) ∧
                                              brc ((ByteArray.toList str1 == ByteArray.toList str7))
                                                (Calls Pr 24 #[(.pointer p2)] w48 fun e19 w49 =>
                                                    ∃ (n12 : Int),
                                                    e19 = .returned (.int .i64 n12) ∧
                                                    ∃ (S37 : World → Prop),
                                                    (∀ w, S37 w → S36 w) ∧
                                                    S37 w49 ∧
                                                    R (.bool (n12 == (2 : Int))) w49)
                                                (R (.bool false) w48))
                                          ((R (.bool false) (World.drew w13) ∧
                                            R (.bool false) (World.drew w13) ∧
                                            R (.bool false) (World.drew w13)) ∧
                                            (R (.bool false) (World.drew w13) ∧
                                            R (.bool false) (World.drew w13)) ∧
                                            R (.bool false) (World.drew w13))))))))

theorem call20 {w0 : World} {R : Ending → World → Prop} (h : ir20 w0 fun v w => R (.returned v) w) : Calls Pr 20 #[] w0 R := by
  refine calls_of_vc (ann := []) (E := []) (args := []) follows Try.func20 rfl (by kernel_rfl) ?_
  apply by_eq h
  kernel_rfl

/-- (*creel/run.Reader).Next -/
def ir21 (x0 : Option Addr) (w0 : World) (R : Value → World → Prop) : Prop :=
  ∃ (a1 : Addr) (w1 : World),
  Sem.run Pr (Instr.alloc 34 true (.tuple #[])) w0 = .ok (.pointer (some a1)) w1 ∧
  brc (Option.isNone x0)
    (∃ (w2 : World),
      Sem.run Pr (Instr.storeAt 34 (.pointer (some a1)) (.agg #[(.slice none 0 0), (.bool false)])) w1 = .ok () w2 ∧
      ∃ (s1 : SV) (b1 : Bool),
      At Pr w2 (loadVar 34 a1) (.agg #[(.slice s1.a s1.len s1.cap), (.bool b1)]) ∧
      R (.tuple #[(.agg #[(.slice s1.a s1.len s1.cap), (.bool b1)]), (.int .i64 2)]) w2)
    (optK x0 fun a2 =>
        ∃ (b2 : Bool),
        At Pr w1 (loadVar 4 (Addr.add a2 3)) (.bool b2) ∧
        brc (b2)
          (∃ (w3 : World),
            Sem.run Pr (Instr.storeAt 34 (.pointer (some a1)) (.agg #[(.slice none 0 0), (.bool false)])) w1 = .ok () w3 ∧
            ∃ (s2 : SV) (b3 : Bool),
            At Pr w3 (loadVar 34 a1) (.agg #[(.slice s2.a s2.len s2.cap), (.bool b3)]) ∧
            R (.tuple #[(.agg #[(.slice s2.a s2.len s2.cap), (.bool b3)]), (.int .i64 6)]) w3)
          (optK x0 fun a3 =>
              ∃ (s3 : SV),
              At Pr w1 (loadVar 26 (Addr.add a3 0)) (.slice s3.a s3.len s3.cap) ∧
              brc (((s3.len : Nat) : Int) == (0 : Int))
                (∃ (w4 : World),
                  Sem.run Pr (Instr.storeAt 34 (.pointer (some a1)) (.agg #[(.slice none 0 0), (.bool false)])) w1 = .ok () w4 ∧
                  ∃ (s4 : SV) (b4 : Bool),
                  At Pr w4 (loadVar 34 a1) (.agg #[(.slice s4.a s4.len s4.cap), (.bool b4)]) ∧
                  R (.tuple #[(.agg #[(.slice s4.a s4.len s4.cap), (.bool b4)]), (.int .i64 0)]) w4)
                (optK x0 fun a4 =>
                    ∃ (s5 : SV),
                    At Pr w1 (loadVar 26 (Addr.add a4 0)) (.slice s5.a s5.len s5.cap) ∧
                    Calls Pr 82 #[(.slice s5.a s5.len s5.cap)] w1 fun e1 w5 =>
                      ∃ (s6 : SV) (s7 : SV) (n1 : Int),
                      e1 = .returned (.tuple #[(.slice s6.a s6.len s6.cap), (.slice s7.a s7.len s7.cap), (.int .i64 n1)]) ∧
                      brc (n1 != (0 : Int))
                        (optK x0 fun a5 =>
                            ∃ (w6 : World),
                            Sem.run Pr (Instr.storeAt 4 (.pointer (some (Addr.add a5 3))) (.bool true)) w5 = .ok () w6 ∧
                            ∃ (w7 : World),
                            Sem.run Pr (Instr.storeAt 34 (.pointer (some a1)) (.agg #[(.slice none 0 0), (.bool false)])) w6 = .ok () w7 ∧
                            ∃ (s8 : SV) (b5 : Bool),
                            At Pr w7 (loadVar 34 a1) (.agg #[(.slice s8.a s8.len s8.cap), (.bool b5)]) ∧
                            R (.tuple #[(.agg #[(.slice s8.a s8.len s8.cap), (.bool b5)]), (.int .i64 6)]) w7)
                        (brc (decide (((s6.len : Nat) : Int) > (64 : Int)))
                            (optK x0 fun a6 =>
                                ∃ (w8 : World),
                                Sem.run Pr (Instr.storeAt 4 (.pointer (some (Addr.add a6 3))) (.bool true)) w5 = .ok () w8 ∧
                                ∃ (w9 : World),
                                Sem.run Pr (Instr.storeAt 34 (.pointer (some a1)) (.agg #[(.slice none 0 0), (.bool false)])) w8 = .ok () w9 ∧
                                ∃ (s9 : SV) (b6 : Bool),
                                At Pr w9 (loadVar 34 a1) (.agg #[(.slice s9.a s9.len s9.cap), (.bool b6)]) ∧
                                R (.tuple #[(.agg #[(.slice s9.a s9.len s9.cap), (.bool b6)]), (.int .i64 6)]) w9)
                            (optK x0 fun a7 =>
                                Calls Pr 83 #[(.pointer (some (Addr.add a7 1))), (.slice s6.a s6.len s6.cap)] w5 fun e2 w10 =>
                                  ∃ (b7 : Bool),
                                  e2 = .returned (.bool b7) ∧
                                  brc (!b7)
                                    (optK x0 fun a8 =>
                                        ∃ (w11 : World),
                                        Sem.run Pr (Instr.storeAt 4 (.pointer (some (Addr.add a8 3))) (.bool true)) w10 = .ok () w11 ∧
                                        ∃ (w12 : World),
                                        Sem.run Pr (Instr.storeAt 34 (.pointer (some a1)) (.agg #[(.slice none 0 0), (.bool false)])) w11 = .ok () w12 ∧
                                        ∃ (s10 : SV) (b8 : Bool),
                                        At Pr w12 (loadVar 34 a1) (.agg #[(.slice s10.a s10.len s10.cap), (.bool b8)]) ∧
                                        R (.tuple #[(.agg #[(.slice s10.a s10.len s10.cap), (.bool b8)]), (.int .i64 6)]) w12)
                                    (optK x0 fun a9 =>
                                        ∃ (w13 : World),
                                        Sem.run Pr (Instr.storeAt 26 (.pointer (some (Addr.add a9 0))) (.slice s7.a s7.len s7.cap)) w10 = .ok () w13 ∧
                                        ∃ (w14 : World),
                                        Sem.run Pr (Instr.storeAt 34 (.pointer (some a1)) (.agg #[(.slice s6.a s6.len s6.cap), (.bool true)])) w13 = .ok () w14 ∧
                                        ∃ (s11 : SV) (b9 : Bool),
                                        At Pr w14 (loadVar 34 a1) (.agg #[(.slice s11.a s11.len s11.cap), (.bool b9)]) ∧
                                        R (.tuple #[(.agg #[(.slice s11.a s11.len s11.cap), (.bool b9)]), (.int .i64 0)]) w14))))))

theorem call21 {x0 : Option Addr} {w0 : World} {R : Ending → World → Prop} (h : ir21 x0 w0 fun v w => R (.returned v) w) : Calls Pr 21 #[.pointer x0] w0 R := by
  refine calls_of_vc (ann := []) (E := []) (args := [.pointer x0]) follows Try.func21 rfl (by kernel_rfl) ?_
  apply by_eq h
  kernel_rfl

/-- (*creel/run.Writer).Add -/
def ir22 (x0 : Option Addr) (x1 : SV) (w0 : World) (R : Value → World → Prop) : Prop :=
  brc (Option.isNone x0)
    (R (.int .i64 2) w0)
    (brc (decide (((x1.len : Nat) : Int) > (64 : Int)))
        (R (.int .i64 3) w0)
        (optK x0 fun a1 =>
            ∃ (s1 : SV) (b1 : Bool),
            At Pr w0 (loadVar 128 (Addr.add a1 1)) (.agg #[(.slice s1.a s1.len s1.cap), (.bool b1)]) ∧
            ∃ (a2 : Addr) (w1 : World),
            Sem.run Pr (Instr.alloc 128 true (.tuple #[])) w0 = .ok (.pointer (some a2)) w1 ∧
            ∃ (w2 : World),
            Sem.run Pr (Instr.storeAt 128 (.pointer (some a2)) (.agg #[(.slice s1.a s1.len s1.cap), (.bool b1)])) w1 = .ok () w2 ∧
            optK x0 fun a3 =>
              Calls Pr 83 #[(.pointer (some (Addr.add a3 1))), (.slice x1.a x1.len x1.cap)] w2 fun e1 w3 =>
                ∃ (b2 : Bool),
                e1 = .returned (.bool b2) ∧
                brc (!b2)
                  (R (.int .i64 130) w3)
                  (Calls Pr 84 #[(.slice none 0 0), (.slice x1.a x1.len x1.cap)] w3 fun e2 w4 =>
                      ∃ (s2 : SV) (n1 : Int),
                      e2 = .returned (.tuple #[(.slice s2.a s2.len s2.cap), (.int .i64 n1)]) ∧
                      brc (n1 == (0 : Int))
                        (optK x0 fun a4 =>
                            ∃ (p1 : Option Addr),
                            At Pr w4 (loadVar 41 (Addr.add a4 0)) (.pointer p1) ∧
                            Calls Pr 33 #[(.pointer p1), (.string (⟨#[116, 109, 112]⟩ : ByteArray)), (.slice s2.a s2.len s2.cap)] w4 fun e3 w5 =>
                              ∃ (n2 : Int),
                              e3 = .returned (.int .i64 n2) ∧
                              brc (n2 != (0 : Int))
                                (∃ (s3 : SV) (b3 : Bool),
                                  At Pr w5 (loadVar 128 a2) (.agg #[(.slice s3.a s3.len s3.cap), (.bool b3)]) ∧
                                  optK x0 fun a5 =>
                                    ∃ (w6 : World),
                                    Sem.run Pr (Instr.storeAt 128 (.pointer (some (Addr.add a5 1))) (.agg #[(.slice s3.a s3.len s3.cap), (.bool b3)])) w5 = .ok () w6 ∧
                                    R (.int .i64 n2) w6)
                                (optK x0 fun a6 =>
                                    ∃ (n3 : Int),
                                    At Pr w5 (loadVar 3 (Addr.add a6 3)) (.int .i64 n3) ∧
                                    optK x0 fun a7 =>
                                      ∃ (w7 : World),
                                      Sem.run Pr (Instr.storeAt 3 (.pointer (some (Addr.add a7 3))) (.int .i64 (IntKind.wrap .i64 (n3 + 1)))) w5 = .ok () w7 ∧
                                      R (.int .i64 0) w7))
                        (brc (n1 != (0 : Int))
                            (∃ (s4 : SV) (b4 : Bool),
                              At Pr w4 (loadVar 128 a2) (.agg #[(.slice s4.a s4.len s4.cap), (.bool b4)]) ∧
                              optK x0 fun a8 =>
                                ∃ (w8 : World),
                                Sem.run Pr (Instr.storeAt 128 (.pointer (some (Addr.add a8 1))) (.agg #[(.slice s4.a s4.len s4.cap), (.bool b4)])) w4 = .ok () w8 ∧
                                R (.int .i64 n1) w8)
                            (optK x0 fun a9 =>
                                ∃ (n4 : Int),
                                At Pr w4 (loadVar 3 (Addr.add a9 3)) (.int .i64 n4) ∧
                                optK x0 fun a10 =>
                                  ∃ (w9 : World),
                                  Sem.run Pr (Instr.storeAt 3 (.pointer (some (Addr.add a10 3))) (.int .i64 (IntKind.wrap .i64 (n4 + 1)))) w4 = .ok () w9 ∧
                                  R (.int .i64 0) w9)))))

theorem call22 {x0 : Option Addr} {x1 : SV} {w0 : World} {R : Ending → World → Prop} (h : ir22 x0 x1 w0 fun v w => R (.returned v) w) : Calls Pr 22 #[.pointer x0, .slice x1.a x1.len x1.cap] w0 R := by
  refine calls_of_vc (ann := []) (E := []) (args := [.pointer x0, .slice x1.a x1.len x1.cap]) follows Try.func22 rfl (by kernel_rfl) ?_
  apply by_eq h
  kernel_rfl

/-- (*creel/run.Writer).End -/
def ir23 (x0 : Option Addr) (x1 : ByteArray) (w0 : World) (R : Value → World → Prop) : Prop :=
  brc (Option.isNone x0)
    (R (.int .i64 2) w0)
    (brc ((ByteArray.toList x1 == ByteArray.toList (⟨#[116, 109, 112]⟩ : ByteArray)))
        (R (.int .i64 1) w0)
        (brc ((ByteArray.toList x1 == ByteArray.toList (⟨#[]⟩ : ByteArray)))
            (R (.int .i64 1) w0)
            (brc (decide (((ByteArray.size x1 : Nat) : Int) > (32 : Int)))
                (R (.int .i64 1) w0)
                (optK x0 fun a1 =>
                    ∃ (p1 : Option Addr),
                    At Pr w0 (loadVar 41 (Addr.add a1 0)) (.pointer p1) ∧
                    Calls Pr 57 #[(.pointer p1), (.string (⟨#[116, 109, 112]⟩ : ByteArray))] w0 fun e1 w1 =>
                      ∃ (n1 : Int),
                      e1 = .returned (.int .i64 n1) ∧
                      brc (n1 != (0 : Int))
                        (R (.int .i64 n1) w1)
                        (optK x0 fun a2 =>
                            ∃ (p2 : Option Addr),
                            At Pr w1 (loadVar 41 (Addr.add a2 0)) (.pointer p2) ∧
                            Calls Pr 85 #[(.pointer p2), (.string (⟨#[116, 109, 112]⟩ : ByteArray)), (.string x1)] w1 fun e2 w2 =>
                              ∃ (n2 : Int),
                              e2 = .returned (.int .i64 n2) ∧
                              brc (n2 != (0 : Int))
                                (R (.int .i64 n2) w2)
                                (optK x0 fun a3 =>
                                    ∃ (p3 : Option Addr),
                                    At Pr w2 (loadVar 41 (Addr.add a3 0)) (.pointer p3) ∧
                                    Calls Pr 55 #[(.pointer p3)] w2 fun e3 w3 =>
                                      ∃ (n3 : Int),
                                      e3 = .returned (.int .i64 n3) ∧
                                      R (.int .i64 n3) w3))))))

theorem call23 {x0 : Option Addr} {x1 : ByteArray} {w0 : World} {R : Ending → World → Prop} (h : ir23 x0 x1 w0 fun v w => R (.returned v) w) : Calls Pr 23 #[.pointer x0, .string x1] w0 R := by
  refine calls_of_vc (ann := []) (E := []) (args := [.pointer x0, .string x1]) follows Try.func23 rfl (by kernel_rfl) ?_
  apply by_eq h
  kernel_rfl

/-- (*creel/run.Writer).Many -/
def ir24 (x0 : Option Addr) (w0 : World) (R : Value → World → Prop) : Prop :=
  brc (Option.isNone x0)
    (R (.int .i64 0) w0)
    (optK x0 fun a1 =>
        ∃ (n1 : Int),
        At Pr w0 (loadVar 3 (Addr.add a1 3)) (.int .i64 n1) ∧
        R (.int .i64 n1) w0)

theorem call24 {x0 : Option Addr} {w0 : World} {R : Ending → World → Prop} (h : ir24 x0 w0 fun v w => R (.returned v) w) : Calls Pr 24 #[.pointer x0] w0 R := by
  refine calls_of_vc (ann := []) (E := []) (args := [.pointer x0]) follows Try.func24 rfl (by kernel_rfl) ?_
  apply by_eq h
  kernel_rfl

/-- creel/disk.New -/
def ir25 (x0 : Int) (w0 : World) (R : Value → World → Prop) : Prop :=
  ∃ (m1 : Nat) (w1 : World),
  Sem.run Pr (Instr.makeMap 137 none) w0 = .ok (.map (some m1)) w1 ∧
  ∃ (m2 : Nat) (w2 : World),
  Sem.run Pr (Instr.makeMap 137 none) w1 = .ok (.map (some m2)) w2 ∧
  ∃ (a1 : Addr) (w3 : World),
  Sem.run Pr (Instr.box 140 (.agg #[(.map (some m1)), (.map (some m2)), (.slice none 0 0), (.int .i64 (if 0 > x0 then 0 else x0)), (.bool false), (.bool false), (.int .i64 0)])) w2 = .ok (.pointer (some a1)) w3 ∧
  R (.pointer (some a1)) w3

theorem call25 {x0 : Int} {w0 : World} {R : Ending → World → Prop} (h : ir25 x0 w0 fun v w => R (.returned v) w) : Calls Pr 25 #[.int .i64 x0] w0 R := by
  refine calls_of_vc (ann := []) (E := []) (args := [.int .i64 x0]) follows Try.func25 rfl (by kernel_rfl) ?_
  apply by_eq h
  kernel_rfl

/-- creel/run.Start -/
def ir27 (x0 : Option Addr) (w0 : World) (R : Value → World → Prop) : Prop :=
  Calls Pr 86 #[(.pointer x0), (.string (⟨#[116, 109, 112]⟩ : ByteArray))] w0 fun e1 w1 =>
    ∃ (n1 : Int),
    e1 = .returned (.int .i64 n1) ∧
    brc (n1 != (0 : Int))
      (brc (n1 != (2 : Int))
          (R (.tuple #[(.pointer none), (.int .i64 n1)]) w1)
          (Calls Pr 32 #[(.pointer x0), (.string (⟨#[116, 109, 112]⟩ : ByteArray))] w1 fun e2 w2 =>
              ∃ (n2 : Int),
              e2 = .returned (.int .i64 n2) ∧
              brc (n2 != (0 : Int))
                (R (.tuple #[(.pointer none), (.int .i64 n2)]) w2)
                (∃ (a1 : Addr) (w3 : World),
                  Sem.run Pr (Instr.box 134 (.agg #[(.pointer x0), (.slice none 0 0), (.bool false), (.int .i64 0)])) w2 = .ok (.pointer (some a1)) w3 ∧
                  R (.tuple #[(.pointer (some a1)), (.int .i64 0)]) w3)))
      (Calls Pr 32 #[(.pointer x0), (.string (⟨#[116, 109, 112]⟩ : ByteArray))] w1 fun e3 w4 =>
          ∃ (n3 : Int),
          e3 = .returned (.int .i64 n3) ∧
          brc (n3 != (0 : Int))
            (R (.tuple #[(.pointer none), (.int .i64 n3)]) w4)
            (∃ (a2 : Addr) (w5 : World),
              Sem.run Pr (Instr.box 134 (.agg #[(.pointer x0), (.slice none 0 0), (.bool false), (.int .i64 0)])) w4 = .ok (.pointer (some a2)) w5 ∧
              R (.tuple #[(.pointer (some a2)), (.int .i64 0)]) w5))

theorem call27 {x0 : Option Addr} {w0 : World} {R : Ending → World → Prop} (h : ir27 x0 w0 fun v w => R (.returned v) w) : Calls Pr 27 #[.pointer x0] w0 R := by
  refine calls_of_vc (ann := []) (E := []) (args := [.pointer x0]) follows Try.func27 rfl (by kernel_rfl) ?_
  apply by_eq h
  kernel_rfl

/-- (*creel/disk.Disk).Read -/
def ir28 (x0 : Option Addr) (x1 : ByteArray) (w0 : World) (R : Value → World → Prop) : Prop :=
  Calls Pr 87 #[(.pointer x0), (.string x1)] w0 fun e1 w1 =>
    ∃ (p1 : Option Addr) (n1 : Int),
    e1 = .returned (.tuple #[(.pointer p1), (.int .i64 n1)]) ∧
    brc (n1 != (0 : Int))
      (R (.tuple #[(.slice none 0 0), (.int .i64 n1)]) w1)
      (optK p1 fun a1 =>
          ∃ (s1 : SV),
          At Pr w1 (loadVar 26 (Addr.add a1 0)) (.slice s1.a s1.len s1.cap) ∧
          Calls Pr 88 #[(.slice s1.a s1.len s1.cap)] w1 fun e2 w2 =>
            ∃ (s2 : SV),
            e2 = .returned (.slice s2.a s2.len s2.cap) ∧
            R (.tuple #[(.slice s2.a s2.len s2.cap), (.int .i64 0)]) w2)

theorem call28 {x0 : Option Addr} {x1 : ByteArray} {w0 : World} {R : Ending → World → Prop} (h : ir28 x0 x1 w0 fun v w => R (.returned v) w) : Calls Pr 28 #[.pointer x0, .string x1] w0 R := by
  refine calls_of_vc (ann := []) (E := []) (args := [.pointer x0, .string x1]) follows Try.func28 rfl (by kernel_rfl) ?_
  apply by_eq h
  kernel_rfl

/-- (*creel/disk.Disk).Create -/
def ir32 (x0 : Option Addr) (x1 : ByteArray) (w0 : World) (R : Value → World → Prop) : Prop :=
  Calls Pr 91 #[(.pointer x0)] w0 fun e1 w1 =>
    ∃ (n1 : Int),
    e1 = .returned (.int .i64 n1) ∧
    brc (n1 != (0 : Int))
      (R (.int .i64 n1) w1)
      (Calls Pr 92 #[(.string x1)] w1 fun e2 w2 =>
          ∃ (b1 : Bool),
          e2 = .returned (.bool b1) ∧
          brc (!b1)
            (R (.int .i64 1) w2)
            (optK x0 fun a1 =>
                ∃ (m1 : Option Nat),
                At Pr w2 (loadVar 137 (Addr.add a1 0)) (.map m1) ∧
                ∃ (p1 : Option Addr),
                At Pr w2 (Instr.lookup 137 (.map m1) (.string x1) false) (.pointer p1) ∧
                brc (!(Option.isNone p1))
                  (R (.int .i64 4) w2)
                  (∃ (a2 : Addr) (w3 : World),
                    Sem.run Pr (Instr.box 146 (.agg #[(.slice none 0 0), (.int .i64 0)])) w2 = .ok (.pointer (some a2)) w3 ∧
                    Calls Pr 93 #[(.pointer x0), (.agg #[(.string ByteArray.empty), (.string x1), (.pointer (some a2))])] w3 fun e3 w4 =>
                      e3 = .returned (.tuple #[]) ∧
                      R (.int .i64 0) w4)))

theorem call32 {x0 : Option Addr} {x1 : ByteArray} {w0 : World} {R : Ending → World → Prop} (h : ir32 x0 x1 w0 fun v w => R (.returned v) w) : Calls Pr 32 #[.pointer x0, .string x1] w0 R := by
  refine calls_of_vc (ann := []) (E := []) (args := [.pointer x0, .string x1]) follows Try.func32 rfl (by kernel_rfl) ?_
  apply by_eq h
  kernel_rfl

/-- (*creel/disk.Disk).Append -/
def ir33 (x0 : Option Addr) (x1 : ByteArray) (x2 : SV) (w0 : World) (R : Value → World → Prop) : Prop :=
  Calls Pr 87 #[(.pointer x0), (.string x1)] w0 fun e1 w1 =>
    ∃ (p1 : Option Addr) (n1 : Int),
    e1 = .returned (.tuple #[(.pointer p1), (.int .i64 n1)]) ∧
    brc (n1 != (0 : Int))
      (R (.int .i64 n1) w1)
      (∃ (S1 : World → Prop),
        S1 (World.drew w1) ∧
        optK x0 fun a1 =>
          ∃ (n2 : Int),
          AtS Pr S1 (loadVar 3 (Addr.add a1 3)) (.int .i64 n2) ∧
          Calls Pr 40 #[(.pointer x0)] (World.drew w1) fun e2 w2 =>
            ∃ (n3 : Int),
            e2 = .returned (.int .i64 n3) ∧
            ∃ (S2 : World → Prop),
            (∀ w, S2 w → S1 w) ∧
            S2 w2 ∧
            brc (decide ((IntKind.wrap .i64 (n3 + ((x2.len : Nat) : Int))) > n2))
              (R (.int .i64 41) w2)
              (optK p1 fun a2 =>
                  ∃ (s1 : SV),
                  At Pr w2 (loadVar 26 (Addr.add a2 0)) (.slice s1.a s1.len s1.cap) ∧
                  ∃ (s2 : SV) (w3 : World),
                  Sem.run Pr (Instr.buildSlice 22 2 #[(0, (.slice s1.a s1.len s1.cap)), (1, (.slice x2.a x2.len x2.cap))]) w2 = .ok (.slice s2.a s2.len s2.cap) w3 ∧
                  Calls Pr 94 #[(.slice s2.a s2.len s2.cap)] w3 fun e3 w4 =>
                    ∃ (s3 : SV),
                    e3 = .returned (.slice s3.a s3.len s3.cap) ∧
                    optK p1 fun a3 =>
                      ∃ (w5 : World),
                      Sem.run Pr (Instr.storeAt 26 (.pointer (some (Addr.add a3 0))) (.slice s3.a s3.len s3.cap)) w4 = .ok () w5 ∧
                      R (.int .i64 0) w5))

theorem call33 {x0 : Option Addr} {x1 : ByteArray} {x2 : SV} {w0 : World} {R : Ending → World → Prop} (h : ir33 x0 x1 x2 w0 fun v w => R (.returned v) w) : Calls Pr 33 #[.pointer x0, .string x1, .slice x2.a x2.len x2.cap] w0 R := by
  refine calls_of_vc (ann := []) (E := []) (args := [.pointer x0, .string x1, .slice x2.a x2.len x2.cap]) follows Try.func33 rfl (by kernel_rfl) ?_
  apply by_eq h
  kernel_rfl

/-- (*creel/disk.Disk).Used -/
def ir40 (x0 : Option Addr) (w0 : World) (R : Value → World → Prop) : Prop :=
  brc (Option.isNone x0)
    (R (.int .i64 0) w0)
    (∃ (m1 : Nat) (w1 : World),
      Sem.run Pr (Instr.makeMap 160 none) w0 = .ok (.map (some m1)) w1 ∧
      optK x0 fun a1 =>
        ∃ (m2 : Option Nat),
        At Pr w1 (loadVar 137 (Addr.add a1 1)) (.map m2) ∧
        ∃ (a2 : Addr) (w2 : World),
        Sem.run Pr (Instr.range 137 (.map m2)) w1 = .ok (.pointer (some a2)) w2 ∧
        LoopT (σ := Unit) (fun σ1 w3 K1 =>
          ∀ _ : Env,
          NextM Pr (.pointer (some a2)) 0 w3
            (fun w4 =>
              optK x0 fun a3 =>
                ∃ (s1 : SV),
                At Pr w4 (loadVar 138 (Addr.add a3 2)) (.slice s1.a s1.len s1.cap) ∧
                LoopT (σ := Int × Unit) (fun σ2 w6 K2 =>
                  ∀ _ : Env,
                  brc (decide (σ2.1 < ((s1.len : Nat) : Int)))
                    (((0 : Int) ≤ σ2.1 ∧ σ2.1 < ((s1.len : Nat) : Int)) ∧
                      optK s1.a fun a4 =>
                        ∃ (str1 : ByteArray) (str2 : ByteArray) (p1 : Option Addr),
                        At Pr w6 (loadVar 153 (Addr.add a4 (Int.toNat σ2.1 * 3))) (.agg #[(.string str1), (.string str2), (.pointer p1)]) ∧
                        ∃ (a5 : Addr) (w7 : World),
                        Sem.run Pr (Instr.alloc 153 true (.tuple #[])) w6 = .ok (.pointer (some a5)) w7 ∧
                        ∃ (w8 : World),
                        Sem.run Pr (Instr.storeAt 153 (.pointer (some a5)) (.agg #[(.string str1), (.string str2), (.pointer p1)])) w7 = .ok () w8 ∧
                        ∃ (str3 : ByteArray),
                        At Pr w8 (loadVar 9 (Addr.add a5 1)) (.string str3) ∧
                        brc (!(ByteArray.toList str3 == ByteArray.toList (⟨#[]⟩ : ByteArray)))
                          (∃ (p2 : Option Addr),
                            At Pr w8 (loadVar 141 (Addr.add a5 2)) (.pointer p2) ∧
                            ∃ (w9 : World),
                            Sem.run Pr (Instr.mapUpdate 160 (.map (some m1)) (.pointer p2) (.bool true)) w8 = .ok () w9 ∧
                            K2 (IntKind.wrap .i64 (σ2.1 + 1), ()) w9)
                          (K2 (IntKind.wrap .i64 (σ2.1 + 1), ()) w8))
                    (∃ (a6 : Addr) (w10 : World),
                      Sem.run Pr (Instr.range 160 (.map (some m1))) w6 = .ok (.pointer (some a6)) w10 ∧
                      LoopT (σ := Int × Unit) (fun σ3 w11 K3 =>
                        ∀ _ : Env,
                        NextM Pr (.pointer (some a6)) 0 w11
                          (fun w12 =>
                            R (.int .i64 σ3.1) w12)
                          (fun k2 v2 w13 =>
                            ∃ (p3 : Option Addr),
                            ∃ (b1 : Bool),
                            At Pr w13 (Instr.entry (.pointer (some a6))) (.tuple #[(.pointer p3), (.bool b1)]) ∧
                            optK p3 fun a7 =>
                              ∃ (s2 : SV),
                              At Pr w13 (loadVar 26 (Addr.add a7 0)) (.slice s2.a s2.len s2.cap) ∧
                              K3 (IntKind.wrap .i64 (σ3.1 + ((s2.len : Nat) : Int)), ()) w13)) (0, ()) w10)) (0, ()) w4)
            (fun k1 v1 w5 =>
              ∃ (str4 : ByteArray),
              ∃ (p4 : Option Addr),
              At Pr w5 (Instr.entry (.pointer (some a2))) (.tuple #[(.string str4), (.pointer p4)]) ∧
              ∃ (w14 : World),
              Sem.run Pr (Instr.mapUpdate 160 (.map (some m1)) (.pointer p4) (.bool true)) w5 = .ok () w14 ∧
              K1 (()) w14)) (()) w2)

theorem call40 {x0 : Option Addr} {w0 : World} {R : Ending → World → Prop} (h : ir40 x0 w0 fun v w => R (.returned v) w) : Calls Pr 40 #[.pointer x0] w0 R := by
  refine calls_of_vc (ann := [(5, []), (9, [(29, .int .i64)]), (16, [(8, .int .i64)])]) (E := [(17, 137), (41, 160)]) (args := [.pointer x0]) follows Try.func40 rfl (by kernel_rfl) ?_
  apply by_eq h
  kernel_rfl

/-- (*creel/disk.Disk).SyncNames -/
def ir55 (x0 : Option Addr) (w0 : World) (R : Value → World → Prop) : Prop :=
  Calls Pr 91 #[(.pointer x0)] w0 fun e1 w1 =>
    ∃ (n1 : Int),
    e1 = .returned (.int .i64 n1) ∧
    brc (n1 != (0 : Int))
      (R (.int .i64 n1) w1)
      (optK x0 fun a1 =>
          ∃ (m1 : Option Nat),
          At Pr w1 (loadVar 137 (Addr.add a1 0)) (.map m1) ∧
          Calls Pr 108 #[(.map m1)] w1 fun e2 w2 =>
            ∃ (m2 : Option Nat),
            e2 = .returned (.map m2) ∧
            optK x0 fun a2 =>
              ∃ (w3 : World),
              Sem.run Pr (Instr.storeAt 137 (.pointer (some (Addr.add a2 1))) (.map m2)) w2 = .ok () w3 ∧
              optK x0 fun a3 =>
                ∃ (w4 : World),
                Sem.run Pr (Instr.storeAt 138 (.pointer (some (Addr.add a3 2))) (.slice none 0 0)) w3 = .ok () w4 ∧
                R (.int .i64 0) w4)

theorem call55 {x0 : Option Addr} {w0 : World} {R : Ending → World → Prop} (h : ir55 x0 w0 fun v w => R (.returned v) w) : Calls Pr 55 #[.pointer x0] w0 R := by
  refine calls_of_vc (ann := []) (E := []) (args := [.pointer x0]) follows Try.func55 rfl (by kernel_rfl) ?_
  apply by_eq h
  kernel_rfl

/-- (*creel/disk.Disk).Sync -/
def ir57 (x0 : Option Addr) (x1 : ByteArray) (w0 : World) (R : Value → World → Prop) : Prop :=
  Calls Pr 87 #[(.pointer x0), (.string x1)] w0 fun e1 w1 =>
    ∃ (p1 : Option Addr) (n1 : Int),
    e1 = .returned (.tuple #[(.pointer p1), (.int .i64 n1)]) ∧
    brc (n1 != (0 : Int))
      (R (.int .i64 n1) w1)
      (optK p1 fun a1 =>
          ∃ (s1 : SV),
          At Pr w1 (loadVar 26 (Addr.add a1 0)) (.slice s1.a s1.len s1.cap) ∧
          optK p1 fun a2 =>
            ∃ (w2 : World),
            Sem.run Pr (Instr.storeAt 3 (.pointer (some (Addr.add a2 1))) (.int .i64 ((s1.len : Nat) : Int))) w1 = .ok () w2 ∧
            R (.int .i64 0) w2)

theorem call57 {x0 : Option Addr} {x1 : ByteArray} {w0 : World} {R : Ending → World → Prop} (h : ir57 x0 x1 w0 fun v w => R (.returned v) w) : Calls Pr 57 #[.pointer x0, .string x1] w0 R := by
  refine calls_of_vc (ann := []) (E := []) (args := [.pointer x0, .string x1]) follows Try.func57 rfl (by kernel_rfl) ?_
  apply by_eq h
  kernel_rfl

/-- creel/creelref13.Bytes -/
def ir66 (x0 : SV) (w0 : World) (R : Value → World → Prop) : Prop :=
  LoopT (σ := Int × SV × Unit) (fun σ1 w1 K1 =>
    ∀ _ : Env,
    brc (decide (σ1.1 < ((x0.len : Nat) : Int)))
      (((0 : Int) ≤ σ1.1 ∧ σ1.1 < ((x0.len : Nat) : Int)) ∧
        optK x0.a fun a1 =>
          ∃ (s1 : SV),
          At Pr w1 (loadVar 26 (Addr.add a1 (Int.toNat σ1.1 * 1))) (.slice s1.a s1.len s1.cap) ∧
          Calls Pr 70 #[(.slice σ1.2.1.a σ1.2.1.len σ1.2.1.cap), (.slice s1.a s1.len s1.cap)] w1 fun e1 w2 =>
            ∃ (s2 : SV) (n1 : Int),
            e1 = .returned (.tuple #[(.slice s2.a s2.len s2.cap), (.int .i64 n1)]) ∧
            K1 (IntKind.wrap .i64 (σ1.1 + 1), s2, ()) w2)
      (R (.slice σ1.2.1.a σ1.2.1.len σ1.2.1.cap) w1)) (0, SV.mk none 0 0, ()) w0

theorem call66 {x0 : SV} {w0 : World} {R : Ending → World → Prop} (h : ir66 x0 w0 fun v w => R (.returned v) w) : Calls Pr 66 #[.slice x0.a x0.len x0.cap] w0 R := by
  refine calls_of_vc (ann := [(3, [(4, .int .i64), (3, .slice)])]) (E := []) (args := [.slice x0.a x0.len x0.cap]) follows Try.func66 rfl (by kernel_rfl) ?_
  apply by_eq h
  kernel_rfl

/-- creel/creelref03.Put -/
def ir70 (x0 : SV) (x1 : SV) (w0 : World) (R : Value → World → Prop) : Prop :=
  brc (decide (((x1.len : Nat) : Int) > (4096 : Int)))
    (R (.tuple #[(.slice none 0 0), (.int .i64 3)]) w0)
    (Calls Pr 129 #[(.slice none 0 0), (.int .u64 (IntKind.wrap .u64 ((x1.len : Nat) : Int))), (.int .i64 4)] w0 fun e1 w1 =>
        ∃ (s1 : SV),
        e1 = .returned (.slice s1.a s1.len s1.cap) ∧
        ∃ (s2 : SV) (w2 : World),
        Sem.run Pr (Builtin.append_ #[26, 26] 26 #[(.slice s1.a s1.len s1.cap), (.slice x1.a x1.len x1.cap)]) w1 = .ok (.slice s2.a s2.len s2.cap) w2 ∧
        Calls Pr 128 #[(.slice s2.a s2.len s2.cap)] w2 fun e2 w3 =>
          ∃ (s3 : SV),
          e2 = .returned (.slice s3.a s3.len s3.cap) ∧
          ∃ (s4 : SV) (w4 : World),
          Sem.run Pr (Instr.buildSlice 26 0 #[]) w3 = .ok (.slice s4.a s4.len s4.cap) w4 ∧
          ∃ (s5 : SV) (w5 : World),
          Sem.run Pr (Builtin.append_ #[26, 26] 26 #[(.slice s4.a s4.len s4.cap), (.slice x0.a x0.len x0.cap)]) w4 = .ok (.slice s5.a s5.len s5.cap) w5 ∧
          ∃ (s6 : SV) (w6 : World),
          Sem.run Pr (Builtin.append_ #[26, 26] 26 #[(.slice s5.a s5.len s5.cap), (.slice s3.a s3.len s3.cap)]) w5 = .ok (.slice s6.a s6.len s6.cap) w6 ∧
          R (.tuple #[(.slice s6.a s6.len s6.cap), (.int .i64 0)]) w6)

theorem call70 {x0 : SV} {x1 : SV} {w0 : World} {R : Ending → World → Prop} (h : ir70 x0 x1 w0 fun v w => R (.returned v) w) : Calls Pr 70 #[.slice x0.a x0.len x0.cap, .slice x1.a x1.len x1.cap] w0 R := by
  refine calls_of_vc (ann := []) (E := []) (args := [.slice x0.a x0.len x0.cap, .slice x1.a x1.len x1.cap]) follows Try.func70 rfl (by kernel_rfl) ?_
  apply by_eq h
  kernel_rfl

/-- bytes.Equal -/
def ir81 (x0 : SV) (x1 : SV) (w0 : World) (R : Value → World → Prop) : Prop :=
  ∃ (str1 : ByteArray),
  At Pr w0 (convert 26 9 (.slice x0.a x0.len x0.cap)) (.string str1) ∧
  ∃ (str2 : ByteArray),
  At Pr w0 (convert 26 9 (.slice x1.a x1.len x1.cap)) (.string str2) ∧
  R (.bool (ByteArray.toList str1 == ByteArray.toList str2)) w0

theorem call81 {x0 : SV} {x1 : SV} {w0 : World} {R : Ending → World → Prop} (h : ir81 x0 x1 w0 fun v w => R (.returned v) w) : Calls Pr 81 #[.slice x0.a x0.len x0.cap, .slice x1.a x1.len x1.cap] w0 R := by
  refine calls_of_vc (ann := []) (E := []) (args := [.slice x0.a x0.len x0.cap, .slice x1.a x1.len x1.cap]) follows Try.func81 rfl (by kernel_rfl) ?_
  apply by_eq h
  kernel_rfl

/-- (*creel/run.order).rises -/
def ir83 (x0 : Option Addr) (x1 : SV) (w0 : World) (R : Value → World → Prop) : Prop :=
  optK x0 fun a1 =>
    ∃ (b1 : Bool),
    At Pr w0 (loadVar 4 (Addr.add a1 1)) (.bool b1) ∧
    brc (b1)
      (optK x0 fun a2 =>
          ∃ (s1 : SV),
          At Pr w0 (loadVar 26 (Addr.add a2 0)) (.slice s1.a s1.len s1.cap) ∧
          Calls Pr 136 #[(.slice s1.a s1.len s1.cap), (.slice x1.a x1.len x1.cap)] w0 fun e1 w1 =>
            ∃ (n1 : Int),
            e1 = .returned (.int .i64 n1) ∧
            brc (decide (n1 ≥ (0 : Int)))
              (R (.bool false) w1)
              (Calls Pr 88 #[(.slice x1.a x1.len x1.cap)] w1 fun e2 w2 =>
                  ∃ (s2 : SV),
                  e2 = .returned (.slice s2.a s2.len s2.cap) ∧
                  optK x0 fun a3 =>
                    ∃ (w3 : World),
                    Sem.run Pr (Instr.storeAt 26 (.pointer (some (Addr.add a3 0))) (.slice s2.a s2.len s2.cap)) w2 = .ok () w3 ∧
                    optK x0 fun a4 =>
                      ∃ (w4 : World),
                      Sem.run Pr (Instr.storeAt 4 (.pointer (some (Addr.add a4 1))) (.bool true)) w3 = .ok () w4 ∧
                      R (.bool true) w4))
      (Calls Pr 88 #[(.slice x1.a x1.len x1.cap)] w0 fun e3 w5 =>
          ∃ (s3 : SV),
          e3 = .returned (.slice s3.a s3.len s3.cap) ∧
          optK x0 fun a5 =>
            ∃ (w6 : World),
            Sem.run Pr (Instr.storeAt 26 (.pointer (some (Addr.add a5 0))) (.slice s3.a s3.len s3.cap)) w5 = .ok () w6 ∧
            optK x0 fun a6 =>
              ∃ (w7 : World),
              Sem.run Pr (Instr.storeAt 4 (.pointer (some (Addr.add a6 1))) (.bool true)) w6 = .ok () w7 ∧
              R (.bool true) w7)

theorem call83 {x0 : Option Addr} {x1 : SV} {w0 : World} {R : Ending → World → Prop} (h : ir83 x0 x1 w0 fun v w => R (.returned v) w) : Calls Pr 83 #[.pointer x0, .slice x1.a x1.len x1.cap] w0 R := by
  refine calls_of_vc (ann := []) (E := []) (args := [.pointer x0, .slice x1.a x1.len x1.cap]) follows Try.func83 rfl (by kernel_rfl) ?_
  apply by_eq h
  kernel_rfl

/-- creel/frame.Put -/
def ir84 (x0 : SV) (x1 : SV) (w0 : World) (R : Value → World → Prop) : Prop :=
  brc (decide (((x1.len : Nat) : Int) > (4096 : Int)))
    (R (.tuple #[(.slice none 0 0), (.int .i64 3)]) w0)
    (Calls Pr 138 #[(.slice none 0 0), (.int .u64 (IntKind.wrap .u64 ((x1.len : Nat) : Int))), (.int .i64 4)] w0 fun e1 w1 =>
        ∃ (s1 : SV),
        e1 = .returned (.slice s1.a s1.len s1.cap) ∧
        ∃ (s2 : SV) (w2 : World),
        Sem.run Pr (Instr.buildSlice 22 2 #[(0, (.slice s1.a s1.len s1.cap)), (1, (.slice x1.a x1.len x1.cap))]) w1 = .ok (.slice s2.a s2.len s2.cap) w2 ∧
        Calls Pr 94 #[(.slice s2.a s2.len s2.cap)] w2 fun e2 w3 =>
          ∃ (s3 : SV),
          e2 = .returned (.slice s3.a s3.len s3.cap) ∧
          Calls Pr 137 #[(.slice s3.a s3.len s3.cap)] w3 fun e3 w4 =>
            ∃ (s4 : SV),
            e3 = .returned (.slice s4.a s4.len s4.cap) ∧
            ∃ (s5 : SV) (w5 : World),
            Sem.run Pr (Instr.buildSlice 22 2 #[(0, (.slice x0.a x0.len x0.cap)), (1, (.slice s4.a s4.len s4.cap))]) w4 = .ok (.slice s5.a s5.len s5.cap) w5 ∧
            Calls Pr 94 #[(.slice s5.a s5.len s5.cap)] w5 fun e4 w6 =>
              ∃ (s6 : SV),
              e4 = .returned (.slice s6.a s6.len s6.cap) ∧
              R (.tuple #[(.slice s6.a s6.len s6.cap), (.int .i64 0)]) w6)

theorem call84 {x0 : SV} {x1 : SV} {w0 : World} {R : Ending → World → Prop} (h : ir84 x0 x1 w0 fun v w => R (.returned v) w) : Calls Pr 84 #[.slice x0.a x0.len x0.cap, .slice x1.a x1.len x1.cap] w0 R := by
  refine calls_of_vc (ann := []) (E := []) (args := [.slice x0.a x0.len x0.cap, .slice x1.a x1.len x1.cap]) follows Try.func84 rfl (by kernel_rfl) ?_
  apply by_eq h
  kernel_rfl

/-- (*creel/disk.Disk).Rename -/
def ir85 (x0 : Option Addr) (x1 : ByteArray) (x2 : ByteArray) (w0 : World) (R : Value → World → Prop) : Prop :=
  Calls Pr 87 #[(.pointer x0), (.string x1)] w0 fun e1 w1 =>
    ∃ (p1 : Option Addr) (n1 : Int),
    e1 = .returned (.tuple #[(.pointer p1), (.int .i64 n1)]) ∧
    brc (n1 != (0 : Int))
      (R (.int .i64 n1) w1)
      (Calls Pr 92 #[(.string x2)] w1 fun e2 w2 =>
          ∃ (b1 : Bool),
          e2 = .returned (.bool b1) ∧
          brc (!b1)
            (R (.int .i64 1) w2)
            (Calls Pr 93 #[(.pointer x0), (.agg #[(.string x1), (.string x2), (.pointer p1)])] w2 fun e3 w3 =>
                e3 = .returned (.tuple #[]) ∧
                R (.int .i64 0) w3))

theorem call85 {x0 : Option Addr} {x1 : ByteArray} {x2 : ByteArray} {w0 : World} {R : Ending → World → Prop} (h : ir85 x0 x1 x2 w0 fun v w => R (.returned v) w) : Calls Pr 85 #[.pointer x0, .string x1, .string x2] w0 R := by
  refine calls_of_vc (ann := []) (E := []) (args := [.pointer x0, .string x1, .string x2]) follows Try.func85 rfl (by kernel_rfl) ?_
  apply by_eq h
  kernel_rfl

/-- (*creel/disk.Disk).Remove -/
def ir86 (x0 : Option Addr) (x1 : ByteArray) (w0 : World) (R : Value → World → Prop) : Prop :=
  Calls Pr 87 #[(.pointer x0), (.string x1)] w0 fun e1 w1 =>
    ∃ (p1 : Option Addr) (n1 : Int),
    e1 = .returned (.tuple #[(.pointer p1), (.int .i64 n1)]) ∧
    brc (n1 != (0 : Int))
      (R (.int .i64 n1) w1)
      (Calls Pr 93 #[(.pointer x0), (.agg #[(.string x1), (.string ByteArray.empty), (.pointer none)])] w1 fun e2 w2 =>
          e2 = .returned (.tuple #[]) ∧
          R (.int .i64 0) w2)

theorem call86 {x0 : Option Addr} {x1 : ByteArray} {w0 : World} {R : Ending → World → Prop} (h : ir86 x0 x1 w0 fun v w => R (.returned v) w) : Calls Pr 86 #[.pointer x0, .string x1] w0 R := by
  refine calls_of_vc (ann := []) (E := []) (args := [.pointer x0, .string x1]) follows Try.func86 rfl (by kernel_rfl) ?_
  apply by_eq h
  kernel_rfl

/-- (*creel/disk.Disk).find -/
def ir87 (x0 : Option Addr) (x1 : ByteArray) (w0 : World) (R : Value → World → Prop) : Prop :=
  Calls Pr 91 #[(.pointer x0)] w0 fun e1 w1 =>
    ∃ (n1 : Int),
    e1 = .returned (.int .i64 n1) ∧
    brc (n1 != (0 : Int))
      (R (.tuple #[(.pointer none), (.int .i64 n1)]) w1)
      (optK x0 fun a1 =>
          ∃ (m1 : Option Nat),
          At Pr w1 (loadVar 137 (Addr.add a1 0)) (.map m1) ∧
          ∃ (p1 : Option Addr),
          At Pr w1 (Instr.lookup 137 (.map m1) (.string x1) false) (.pointer p1) ∧
          brc (Option.isNone p1)
            (R (.tuple #[(.pointer none), (.int .i64 2)]) w1)
            (R (.tuple #[(.pointer p1), (.int .i64 0)]) w1))

theorem call87 {x0 : Option Addr} {x1 : ByteArray} {w0 : World} {R : Ending → World → Prop} (h : ir87 x0 x1 w0 fun v w => R (.returned v) w) : Calls Pr 87 #[.pointer x0, .string x1] w0 R := by
  refine calls_of_vc (ann := []) (E := []) (args := [.pointer x0, .string x1]) follows Try.func87 rfl (by kernel_rfl) ?_
  apply by_eq h
  kernel_rfl

/-- slices.Clone[[]byte,byte] -/
def ir88 (x0 : SV) (w0 : World) (R : Value → World → Prop) : Prop :=
  ∃ (b1 : Bool),
  At Pr w0 (do eqGuard .eql 26 (.tmp 3) (.const (.slice none 0 0)) (.slice x0.a x0.len x0.cap) (.slice none 0 0); binOp .eql 26 (.slice x0.a x0.len x0.cap) (.slice none 0 0)) (.bool b1) ∧
  brc (b1)
    (R (.slice none 0 0) w0)
    (∃ (s1 : SV) (w1 : World),
      Sem.run Pr (Instr.buildSlice 26 0 #[]) w0 = .ok (.slice s1.a s1.len s1.cap) w1 ∧
      ∃ (s2 : SV) (w2 : World),
      Sem.run Pr (Builtin.append_ #[26, 26] 26 #[(.slice s1.a s1.len s1.cap), (.slice x0.a x0.len x0.cap)]) w1 = .ok (.slice s2.a s2.len s2.cap) w2 ∧
      R (.slice s2.a s2.len s2.cap) w2)

theorem call88 {x0 : SV} {w0 : World} {R : Ending → World → Prop} (h : ir88 x0 w0 fun v w => R (.returned v) w) : Calls Pr 88 #[.slice x0.a x0.len x0.cap] w0 R := by
  refine calls_of_vc (ann := []) (E := []) (args := [.slice x0.a x0.len x0.cap]) follows Try.func88 rfl (by kernel_rfl) ?_
  apply by_eq h
  kernel_rfl

/-- (*creel/disk.Disk).ready -/
def ir91 (x0 : Option Addr) (w0 : World) (R : Value → World → Prop) : Prop :=
  brc (Option.isNone x0)
    (R (.int .i64 2) w0)
    (optK x0 fun a1 =>
        ∃ (b1 : Bool),
        At Pr w0 (loadVar 4 (Addr.add a1 4)) (.bool b1) ∧
        brc (b1)
          (R (.int .i64 40) w0)
          (optK x0 fun a2 =>
              ∃ (b2 : Bool),
              At Pr w0 (loadVar 4 (Addr.add a2 5)) (.bool b2) ∧
              brc (b2)
                (optK x0 fun a3 =>
                    ∃ (n1 : Int),
                    At Pr w0 (loadVar 3 (Addr.add a3 6)) (.int .i64 n1) ∧
                    brc (n1 == (0 : Int))
                      (optK x0 fun a4 =>
                          ∃ (w1 : World),
                          Sem.run Pr (Instr.storeAt 4 (.pointer (some (Addr.add a4 4))) (.bool true)) w0 = .ok () w1 ∧
                          R (.int .i64 40) w1)
                      (optK x0 fun a5 =>
                          ∃ (b3 : Bool),
                          At Pr w0 (loadVar 4 (Addr.add a5 5)) (.bool b3) ∧
                          brc (b3)
                            (optK x0 fun a6 =>
                                ∃ (n2 : Int),
                                At Pr w0 (loadVar 3 (Addr.add a6 6)) (.int .i64 n2) ∧
                                optK x0 fun a7 =>
                                  ∃ (w2 : World),
                                  Sem.run Pr (Instr.storeAt 3 (.pointer (some (Addr.add a7 6))) (.int .i64 (IntKind.wrap .i64 (n2 - 1)))) w0 = .ok () w2 ∧
                                  R (.int .i64 0) w2)
                            (R (.int .i64 0) w0)))
                (optK x0 fun a8 =>
                    ∃ (b4 : Bool),
                    At Pr w0 (loadVar 4 (Addr.add a8 5)) (.bool b4) ∧
                    brc (b4)
                      (optK x0 fun a9 =>
                          ∃ (n3 : Int),
                          At Pr w0 (loadVar 3 (Addr.add a9 6)) (.int .i64 n3) ∧
                          optK x0 fun a10 =>
                            ∃ (w3 : World),
                            Sem.run Pr (Instr.storeAt 3 (.pointer (some (Addr.add a10 6))) (.int .i64 (IntKind.wrap .i64 (n3 - 1)))) w0 = .ok () w3 ∧
                            R (.int .i64 0) w3)
                      (R (.int .i64 0) w0))))

theorem call91 {x0 : Option Addr} {w0 : World} {R : Ending → World → Prop} (h : ir91 x0 w0 fun v w => R (.returned v) w) : Calls Pr 91 #[.pointer x0] w0 R := by
  refine calls_of_vc (ann := []) (E := []) (args := [.pointer x0]) follows Try.func91 rfl (by kernel_rfl) ?_
  apply by_eq h
  kernel_rfl

/-- creel/disk.right -/
def ir92 (x0 : ByteArray) (w0 : World) (R : Value → World → Prop) : Prop :=
  brc (decide (((ByteArray.size x0 : Nat) : Int) ≥ (1 : Int)))
    (R (.bool (decide (((ByteArray.size x0 : Nat) : Int) ≤ (32 : Int)))) w0)
    (R (.bool false) w0)

theorem call92 {x0 : ByteArray} {w0 : World} {R : Ending → World → Prop} (h : ir92 x0 w0 fun v w => R (.returned v) w) : Calls Pr 92 #[.string x0] w0 R := by
  refine calls_of_vc (ann := []) (E := []) (args := [.string x0]) follows Try.func92 rfl (by kernel_rfl) ?_
  apply by_eq h
  kernel_rfl

/-- (*creel/disk.Disk).changed -/
def ir93 (x0 : Option Addr) (x1_gone : ByteArray) (x1_new : ByteArray) (x1_file : Option Addr) (w0 : World) (R : Value → World → Prop) : Prop :=
  ∃ (a1 : Addr) (w1 : World),
  Sem.run Pr (Instr.box 153 (.agg #[(.string x1_gone), (.string x1_new), (.pointer x1_file)])) w0 = .ok (.pointer (some a1)) w1 ∧
  ∃ (S1 : World → Prop),
  S1 (World.drew w1) ∧
  optK x0 fun a2 =>
    ∃ (m1 : Option Nat),
    AtS Pr S1 (loadVar 137 (Addr.add a2 0)) (.map m1) ∧
    ∃ (str1 : ByteArray) (str2 : ByteArray) (p1 : Option Addr),
    AtS Pr S1 (loadVar 153 a1) (.agg #[(.string str1), (.string str2), (.pointer p1)]) ∧
    Calls Pr 109 #[(.map m1), (.agg #[(.string str1), (.string str2), (.pointer p1)])] (World.drew w1) fun e1 w2 =>
      e1 = .returned (.tuple #[]) ∧
      ∃ (S2 : World → Prop),
      S2 w2 ∧
      ∃ (S3 : World → Prop),
      S3 (World.drew w2) ∧
      optK x0 fun a3 =>
        ∃ (s1 : SV),
        AtS Pr S3 (loadVar 138 (Addr.add a3 2)) (.slice s1.a s1.len s1.cap) ∧
        ∃ (str3 : ByteArray) (str4 : ByteArray) (p2 : Option Addr),
        AtS Pr S3 (loadVar 153 a1) (.agg #[(.string str3), (.string str4), (.pointer p2)]) ∧
        ∃ (s2 : SV) (w3 : World),
        Sem.run Pr (Instr.buildSlice 138 1 #[(0, (.agg #[(.string str3), (.string str4), (.pointer p2)]))]) (World.drew w2) = .ok (.slice s2.a s2.len s2.cap) w3 ∧
        ∃ (S4 : World → Prop),
        (∀ w, S4 w → S3 w) ∧
        S4 w3 ∧
        ∃ (s3 : SV) (w4 : World),
        Sem.run Pr (Builtin.append_ #[138, 138] 138 #[(.slice s1.a s1.len s1.cap), (.slice s2.a s2.len s2.cap)]) w3 = .ok (.slice s3.a s3.len s3.cap) w4 ∧
        ∃ (S5 : World → Prop),
        (∀ w, S5 w → S4 w) ∧
        S5 w4 ∧
        optK x0 fun a4 =>
          ∃ (w5 : World),
          Sem.run Pr (Instr.storeAt 138 (.pointer (some (Addr.add a4 2))) (.slice s3.a s3.len s3.cap)) w4 = .ok () w5 ∧
          ∃ (S6 : World → Prop),
          S6 w5 ∧
          R (.tuple #[]) w5

theorem call93 {x0 : Option Addr} {x1_gone : ByteArray} {x1_new : ByteArray} {x1_file : Option Addr} {w0 : World} {R : Ending → World → Prop} (h : ir93 x0 x1_gone x1_new x1_file w0 fun v w => R (.returned v) w) : Calls Pr 93 #[.pointer x0, .agg #[(.string x1_gone), (.string x1_new), (.pointer x1_file)]] w0 R := by
  refine calls_of_vc (ann := []) (E := []) (args := [.pointer x0, .agg #[(.string x1_gone), (.string x1_new), (.pointer x1_file)]]) follows Try.func93 rfl (by kernel_rfl) ?_
  apply by_eq h
  kernel_rfl

/-- slices.Concat[[]byte,byte] -/
def ir94 (x0 : SV) (w0 : World) (R : Value → World → Prop) : Prop :=
  LoopT (σ := Int × Int × Unit) (fun σ1 w1 K1 =>
    ∀ _ : Env,
    brc (decide (σ1.1 < ((x0.len : Nat) : Int)))
      (((0 : Int) ≤ σ1.1 ∧ σ1.1 < ((x0.len : Nat) : Int)) ∧
        optK x0.a fun a1 =>
          ∃ (s1 : SV),
          At Pr w1 (loadVar 26 (Addr.add a1 (Int.toNat σ1.1 * 1))) (.slice s1.a s1.len s1.cap) ∧
          brc (decide ((IntKind.wrap .i64 (σ1.2.1 + ((s1.len : Nat) : Int))) < (0 : Int)))
            (∃ (v1 : Value),
              At Pr w1 (Instr.makeInterface 9 (.string (⟨#[108, 101, 110, 32, 111, 117, 116, 32, 111, 102, 32, 114, 97, 110, 103, 101]⟩ : ByteArray))) v1 ∧
              False)
            (K1 (IntKind.wrap .i64 (σ1.1 + 1), IntKind.wrap .i64 (σ1.2.1 + ((s1.len : Nat) : Int)), ()) w1))
      (Calls Pr 140 #[(.slice none 0 0), (.int .i64 σ1.2.1)] w1 fun e1 w2 =>
          ∃ (s2 : SV),
          e1 = .returned (.slice s2.a s2.len s2.cap) ∧
          LoopT (σ := Int × SV × Unit) (fun σ2 w3 K2 =>
            ∀ _ : Env,
            brc (decide (σ2.1 < ((x0.len : Nat) : Int)))
              (((0 : Int) ≤ σ2.1 ∧ σ2.1 < ((x0.len : Nat) : Int)) ∧
                optK x0.a fun a2 =>
                  ∃ (s3 : SV),
                  At Pr w3 (loadVar 26 (Addr.add a2 (Int.toNat σ2.1 * 1))) (.slice s3.a s3.len s3.cap) ∧
                  ∃ (s4 : SV) (w4 : World),
                  Sem.run Pr (Builtin.append_ #[26, 26] 26 #[(.slice σ2.2.1.a σ2.2.1.len σ2.2.1.cap), (.slice s3.a s3.len s3.cap)]) w3 = .ok (.slice s4.a s4.len s4.cap) w4 ∧
                  K2 (IntKind.wrap .i64 (σ2.1 + 1), s4, ()) w4)
              (R (.slice σ2.2.1.a σ2.2.1.len σ2.2.1.cap) w3)) (0, s2, ()) w2)) (0, 0, ()) w0

theorem call94 {x0 : SV} {w0 : World} {R : Ending → World → Prop} (h : ir94 x0 w0 fun v w => R (.returned v) w) : Calls Pr 94 #[.slice x0.a x0.len x0.cap] w0 R := by
  refine calls_of_vc (ann := [(3, [(11, .int .i64), (3, .int .i64)]), (11, [(27, .int .i64), (6, .slice)])]) (E := []) (args := [.slice x0.a x0.len x0.cap]) follows Try.func94 rfl (by kernel_rfl) ?_
  apply by_eq h
  kernel_rfl

/-- maps.Clone[creel/disk.names,string,*creel/disk.file] -/
def ir108 (x0 : Option Nat) (w0 : World) (R : Value → World → Prop) : Prop :=
  ∃ (b1 : Bool),
  At Pr w0 (do eqGuard .eql 137 (.tmp 3) (.const (.map none)) (.map x0) (.map none); binOp .eql 137 (.map x0) (.map none)) (.bool b1) ∧
  brc (b1)
    (R (.map none) w0)
    (∃ (v1 : Value),
      At Pr w0 (Instr.makeInterface 137 (.map x0)) v1 ∧
      Does Pr (callFunc 145 #[v1]) w0 fun v2 w1 =>
        ∃ (m1 : Option Nat),
        At Pr w1 (Instr.typeAssert v2 20 137 false) (.map m1) ∧
        R (.map m1) w1)

set_option maxRecDepth 100000 in
theorem call108 {x0 : Option Nat} {w0 : World} {R : Ending → World → Prop} (h : ir108 x0 w0 fun v w => R (.returned v) w) : Calls Pr 108 #[.map x0] w0 R := by
  refine calls_of_vc (ann := []) (E := []) (args := [.map x0]) follows Try.func108 rfl (by kernel_rfl) ?_
  apply by_eq h
  kernel_rfl

/-- (creel/disk.names).do -/
def ir109 (x0 : Option Nat) (x1_gone : ByteArray) (x1_new : ByteArray) (x1_file : Option Addr) (w0 : World) (R : Value → World → Prop) : Prop :=
  ∃ (a1 : Addr) (w1 : World),
  Sem.run Pr (Instr.box 153 (.agg #[(.string x1_gone), (.string x1_new), (.pointer x1_file)])) w0 = .ok (.pointer (some a1)) w1 ∧
  ∃ (str1 : ByteArray),
  At Pr w1 (loadVar 9 (Addr.add a1 0)) (.string str1) ∧
  ∃ (w2 : World),
  Sem.run Pr (Builtin.delete_ #[137, 9] 0 #[(.map x0), (.string str1)]) w1 = .ok (.tuple #[]) w2 ∧
  ∃ (str2 : ByteArray),
  At Pr w2 (loadVar 9 (Addr.add a1 1)) (.string str2) ∧
  brc (!(ByteArray.toList str2 == ByteArray.toList (⟨#[]⟩ : ByteArray)))
    (∃ (str3 : ByteArray),
      At Pr w2 (loadVar 9 (Addr.add a1 1)) (.string str3) ∧
      ∃ (p1 : Option Addr),
      At Pr w2 (loadVar 141 (Addr.add a1 2)) (.pointer p1) ∧
      ∃ (w3 : World),
      Sem.run Pr (Instr.mapUpdate 137 (.map x0) (.string str3) (.pointer p1)) w2 = .ok () w3 ∧
      R (.tuple #[]) w3)
    (R (.tuple #[]) w2)

theorem call109 {x0 : Option Nat} {x1_gone : ByteArray} {x1_new : ByteArray} {x1_file : Option Addr} {w0 : World} {R : Ending → World → Prop} (h : ir109 x0 x1_gone x1_new x1_file w0 fun v w => R (.returned v) w) : Calls Pr 109 #[.map x0, .agg #[(.string x1_gone), (.string x1_new), (.pointer x1_file)]] w0 R := by
  refine calls_of_vc (ann := []) (E := []) (args := [.map x0, .agg #[(.string x1_gone), (.string x1_new), (.pointer x1_file)]]) follows Try.func109 rfl (by kernel_rfl) ?_
  apply by_eq h
  kernel_rfl

/-- creel/creelref03.Seal -/
def ir128 (x0 : SV) (w0 : World) (R : Value → World → Prop) : Prop :=
  Calls Pr 150 #[(.slice x0.a x0.len x0.cap)] w0 fun e1 w1 =>
    ∃ (n1 : Int),
    e1 = .returned (.int .u32 n1) ∧
    ∃ (s1 : SV) (w2 : World),
    Sem.run Pr (Instr.buildSlice 26 0 #[]) w1 = .ok (.slice s1.a s1.len s1.cap) w2 ∧
    ∃ (s2 : SV) (w3 : World),
    Sem.run Pr (Builtin.append_ #[26, 26] 26 #[(.slice s1.a s1.len s1.cap), (.slice x0.a x0.len x0.cap)]) w2 = .ok (.slice s2.a s2.len s2.cap) w3 ∧
    (256 : Int) ≠ 0 ∧
    (256 : Int) ≠ 0 ∧
    (256 : Int) ≠ 0 ∧
    (65536 : Int) ≠ 0 ∧
    (256 : Int) ≠ 0 ∧
    (16777216 : Int) ≠ 0 ∧
    ∃ (s3 : SV) (w4 : World),
    Sem.run Pr (Instr.buildSlice 26 4 #[(0, (.int .u8 (IntKind.wrap .u8 (Int.tmod n1 256)))), (1, (.int .u8 (IntKind.wrap .u8 (Int.tmod (IntKind.wrap .u32 (Int.tdiv n1 256)) 256)))), (2, (.int .u8 (IntKind.wrap .u8 (Int.tmod (IntKind.wrap .u32 (Int.tdiv n1 65536)) 256)))), (3, (.int .u8 (IntKind.wrap .u8 (IntKind.wrap .u32 (Int.tdiv n1 16777216)))))]) w3 = .ok (.slice s3.a s3.len s3.cap) w4 ∧
    ∃ (s4 : SV) (w5 : World),
    Sem.run Pr (Builtin.append_ #[26, 26] 26 #[(.slice s2.a s2.len s2.cap), (.slice s3.a s3.len s3.cap)]) w4 = .ok (.slice s4.a s4.len s4.cap) w5 ∧
    R (.slice s4.a s4.len s4.cap) w5

theorem call128 {x0 : SV} {w0 : World} {R : Ending → World → Prop} (h : ir128 x0 w0 fun v w => R (.returned v) w) : Calls Pr 128 #[.slice x0.a x0.len x0.cap] w0 R := by
  refine calls_of_vc (ann := []) (E := []) (args := [.slice x0.a x0.len x0.cap]) follows Try.func128 rfl (by kernel_rfl) ?_
  apply by_eq h
  kernel_rfl

/-- creel/creelref01.Fix -/
def ir129 (x0 : SV) (x1 : Int) (x2 : Int) (w0 : World) (R : Value → World → Prop) : Prop :=
  ∃ (s1 : SV) (w1 : World),
  Sem.run Pr (Instr.buildSlice 26 0 #[]) w0 = .ok (.slice s1.a s1.len s1.cap) w1 ∧
  ∃ (s2 : SV) (w2 : World),
  Sem.run Pr (Builtin.append_ #[26, 26] 26 #[(.slice s1.a s1.len s1.cap), (.slice x0.a x0.len x0.cap)]) w1 = .ok (.slice s2.a s2.len s2.cap) w2 ∧
  brc (decide (x2 < (1 : Int)))
    (R (.slice s2.a s2.len s2.cap) w2)
    (brc (decide (x2 > (8 : Int)))
        (R (.slice s2.a s2.len s2.cap) w2)
        (LoopT (σ := Int × SV × Unit) (fun σ1 w3 K1 =>
            ∀ _ : Env,
            brc (decide (σ1.1 ≥ (0 : Int)))
              (LoopT (σ := Int × Int × Unit) (fun σ2 w4 K2 =>
                  ∀ _ : Env,
                  brc (decide (σ2.1 < σ1.1))
                    ((256 : Int) ≠ 0 ∧
                      K2 (IntKind.wrap .i64 (σ2.1 + 1), IntKind.wrap .u64 (Int.tdiv σ2.2.1 256), ()) w4)
                    ((256 : Int) ≠ 0 ∧
                      ∃ (s3 : SV) (w5 : World),
                      Sem.run Pr (Instr.buildSlice 26 1 #[(0, (.int .u8 (IntKind.wrap .u8 (Int.tmod σ2.2.1 256))))]) w4 = .ok (.slice s3.a s3.len s3.cap) w5 ∧
                      ∃ (s4 : SV) (w6 : World),
                      Sem.run Pr (Builtin.append_ #[26, 26] 26 #[(.slice σ1.2.1.a σ1.2.1.len σ1.2.1.cap), (.slice s3.a s3.len s3.cap)]) w5 = .ok (.slice s4.a s4.len s4.cap) w6 ∧
                      K1 (IntKind.wrap .i64 (σ1.1 - 1), s4, ()) w6)) (0, x1, ()) w3)
              (R (.slice σ1.2.1.a σ1.2.1.len σ1.2.1.cap) w3)) (IntKind.wrap .i64 (x2 - 1), s2, ()) w2))

theorem call129 {x0 : SV} {x1 : Int} {x2 : Int} {w0 : World} {R : Ending → World → Prop} (h : ir129 x0 x1 x2 w0 fun v w => R (.returned v) w) : Calls Pr 129 #[.slice x0.a x0.len x0.cap, .int .u64 x1, .int .i64 x2] w0 R := by
  refine calls_of_vc (ann := [(5, [(8, .int .i64), (7, .slice)]), (9, [(10, .int .i64), (9, .int .u64)])]) (E := []) (args := [.slice x0.a x0.len x0.cap, .int .u64 x1, .int .i64 x2]) follows Try.func129 rfl (by kernel_rfl) ?_
  apply by_eq h
  kernel_rfl

/-- bytes.Compare -/
def ir136 (x0 : SV) (x1 : SV) (w0 : World) (R : Value → World → Prop) : Prop :=
  Does Pr (callFunc 155 #[(.slice x0.a x0.len x0.cap), (.slice x1.a x1.len x1.cap)]) w0 fun v1 w1 =>
    R v1 w1

set_option maxRecDepth 100000 in
theorem call136 {x0 : SV} {x1 : SV} {w0 : World} {R : Ending → World → Prop} (h : ir136 x0 x1 w0 fun v w => R (.returned v) w) : Calls Pr 136 #[.slice x0.a x0.len x0.cap, .slice x1.a x1.len x1.cap] w0 R := by
  refine calls_of_vc (ann := []) (E := []) (args := [.slice x0.a x0.len x0.cap, .slice x1.a x1.len x1.cap]) follows Try.func136 rfl (by kernel_rfl) ?_
  apply by_eq h
  kernel_rfl

/-- creel/frame.Seal -/
def ir137 (x0 : SV) (w0 : World) (R : Value → World → Prop) : Prop :=
  ∃ (s1 : SV) (w1 : World),
  Sem.run Pr (Instr.makeSlice 26 (.int .i64 (IntKind.wrap .i64 (((x0.len : Nat) : Int) + 4))) (.int .i64 (IntKind.wrap .i64 (((x0.len : Nat) : Int) + 4)))) w0 = .ok (.slice s1.a s1.len s1.cap) w1 ∧
  ∃ (n1 : Int) (w2 : World),
  Sem.run Pr (Builtin.copy_ #[26, 26] 3 #[(.slice s1.a s1.len s1.cap), (.slice x0.a x0.len x0.cap)]) w1 = .ok (.int .i64 n1) w2 ∧
  Calls Pr 156 #[(.slice x0.a x0.len x0.cap)] w2 fun e1 w3 =>
    ∃ (n2 : Int),
    e1 = .returned (.int .u32 n2) ∧
    ((0 : Int) ≤ ((x0.len : Nat) : Int) ∧ ((x0.len : Nat) : Int) ≤ ((s1.len : Nat) : Int)) ∧
    LoopT (σ := Int × Unit) (fun σ1 w4 K1 =>
      ∀ _ : Env,
      brc (decide (σ1.1 < ((s1.len - (Int.toNat ((x0.len : Nat) : Int)) : Nat) : Int)))
        ((0 : Int) ≤ (IntKind.wrap .i64 (8 * σ1.1)) ∧
          ((0 : Int) ≤ (IntKind.wrap .i64 (((x0.len : Nat) : Int) + σ1.1)) ∧ (IntKind.wrap .i64 (((x0.len : Nat) : Int) + σ1.1)) < ((s1.len : Nat) : Int)) ∧
          optK s1.a fun a1 =>
            ∃ (w5 : World),
            Sem.run Pr (Instr.storeAt 5 (.pointer (some (Addr.add a1 (Int.toNat (IntKind.wrap .i64 (((x0.len : Nat) : Int) + σ1.1)) * 1)))) (.int .u8 (IntKind.wrap .u8 (Int.fdiv n2 (2 ^ (min (Int.toNat (IntKind.wrap .i64 (8 * σ1.1))) (IntKind.bits .u32))))))) w4 = .ok () w5 ∧
            K1 (IntKind.wrap .i64 (σ1.1 + 1), ()) w5)
        (R (.slice s1.a s1.len s1.cap) w4)) (0, ()) w3

theorem call137 {x0 : SV} {w0 : World} {R : Ending → World → Prop} (h : ir137 x0 w0 fun v w => R (.returned v) w) : Calls Pr 137 #[.slice x0.a x0.len x0.cap] w0 R := by
  refine calls_of_vc (ann := [(5, [(20, .int .i64)])]) (E := []) (args := [.slice x0.a x0.len x0.cap]) follows Try.func137 rfl (by kernel_rfl) ?_
  apply by_eq h
  kernel_rfl

/-- creel/vary.Fix -/
def ir138 (x0 : SV) (x1 : Int) (x2 : Int) (w0 : World) (R : Value → World → Prop) : Prop :=
  Calls Pr 88 #[(.slice x0.a x0.len x0.cap)] w0 fun e1 w1 =>
    ∃ (s1 : SV),
    e1 = .returned (.slice s1.a s1.len s1.cap) ∧
    brc (decide (x2 < (1 : Int)))
      (R (.slice s1.a s1.len s1.cap) w1)
      (brc (decide (x2 > (8 : Int)))
          (R (.slice s1.a s1.len s1.cap) w1)
          (LoopT (σ := Int × SV × Unit) (fun σ1 w2 K1 =>
              ∀ _ : Env,
              brc (decide (σ1.1 ≥ (0 : Int)))
                ((0 : Int) ≤ (IntKind.wrap .i64 (8 * σ1.1)) ∧
                  ∃ (s2 : SV) (w3 : World),
                  Sem.run Pr (Instr.buildSlice 26 1 #[(0, (.int .u8 (IntKind.wrap .u8 (Int.fdiv x1 (2 ^ (min (Int.toNat (IntKind.wrap .i64 (8 * σ1.1))) (IntKind.bits .u64)))))))]) w2 = .ok (.slice s2.a s2.len s2.cap) w3 ∧
                  ∃ (s3 : SV) (w4 : World),
                  Sem.run Pr (Builtin.append_ #[26, 26] 26 #[(.slice σ1.2.1.a σ1.2.1.len σ1.2.1.cap), (.slice s2.a s2.len s2.cap)]) w3 = .ok (.slice s3.a s3.len s3.cap) w4 ∧
                  K1 (IntKind.wrap .i64 (σ1.1 - 1), s3, ()) w4)
                (R (.slice σ1.2.1.a σ1.2.1.len σ1.2.1.cap) w2)) (IntKind.wrap .i64 (x2 - 1), s1, ()) w1))

theorem call138 {x0 : SV} {x1 : Int} {x2 : Int} {w0 : World} {R : Ending → World → Prop} (h : ir138 x0 x1 x2 w0 fun v w => R (.returned v) w) : Calls Pr 138 #[.slice x0.a x0.len x0.cap, .int .u64 x1, .int .i64 x2] w0 R := by
  refine calls_of_vc (ann := [(5, [(8, .int .i64), (7, .slice)])]) (E := []) (args := [.slice x0.a x0.len x0.cap, .int .u64 x1, .int .i64 x2]) follows Try.func138 rfl (by kernel_rfl) ?_
  apply by_eq h
  kernel_rfl

/-- slices.Grow[[]byte,byte] -/
def ir140 (x0 : SV) (x1 : Int) (w0 : World) (R : Value → World → Prop) : Prop :=
  brc (decide (x1 < (0 : Int)))
    (∃ (v1 : Value),
      At Pr w0 (Instr.makeInterface 9 (.string (⟨#[99, 97, 110, 110, 111, 116, 32, 98, 101, 32, 110, 101, 103, 97, 116, 105, 118, 101]⟩ : ByteArray))) v1 ∧
      False)
    (∃ (n1 : Int),
      At Pr w0 (Builtin.cap_ #[26] 3 #[(.slice x0.a x0.len x0.cap)]) (.int .i64 n1) ∧
      brc (decide ((IntKind.wrap .i64 (x1 - (IntKind.wrap .i64 (n1 - ((x0.len : Nat) : Int))))) > (0 : Int)))
        (∃ (n2 : Int),
          At Pr w0 (Builtin.cap_ #[26] 3 #[(.slice x0.a x0.len x0.cap)]) (.int .i64 n2) ∧
          ((0 : Int) ≤ n2 ∧ n2 ≤ ((x0.cap : Nat) : Int)) ∧
          ∃ (s1 : SV) (w1 : World),
          Sem.run Pr (Builtin.append_ #[26, 3] 26 #[(.slice (cutAt x0.a 0 x0.cap 1) ((Int.toNat n2) - 0) (x0.cap - 0)), (.int .i64 (IntKind.wrap .i64 (x1 - (IntKind.wrap .i64 (n1 - ((x0.len : Nat) : Int))))))]) w0 = .ok (.slice s1.a s1.len s1.cap) w1 ∧
          ((0 : Int) ≤ ((x0.len : Nat) : Int) ∧ ((x0.len : Nat) : Int) ≤ ((s1.cap : Nat) : Int)) ∧
          R (.slice (cutAt s1.a 0 s1.cap 1) ((Int.toNat ((x0.len : Nat) : Int)) - 0) (s1.cap - 0)) w1)
        (R (.slice x0.a x0.len x0.cap) w0))

theorem call140 {x0 : SV} {x1 : Int} {w0 : World} {R : Ending → World → Prop} (h : ir140 x0 x1 w0 fun v w => R (.returned v) w) : Calls Pr 140 #[.slice x0.a x0.len x0.cap, .int .i64 x1] w0 R := by
  refine calls_of_vc (ann := []) (E := []) (args := [.slice x0.a x0.len x0.cap, .int .i64 x1]) follows Try.func140 rfl (by kernel_rfl) ?_
  apply by_eq h
  kernel_rfl

/-- creel/creelref02.Sum -/
def ir150 (x0 : SV) (w0 : World) (R : Value → World → Prop) : Prop :=
  Calls Pr 162 #[(.int .u32 0), (.slice x0.a x0.len x0.cap)] w0 fun e1 w1 =>
    ∃ (n1 : Int),
    e1 = .returned (.int .u32 n1) ∧
    R (.int .u32 n1) w1

theorem call150 {x0 : SV} {w0 : World} {R : Ending → World → Prop} (h : ir150 x0 w0 fun v w => R (.returned v) w) : Calls Pr 150 #[.slice x0.a x0.len x0.cap] w0 R := by
  refine calls_of_vc (ann := []) (E := []) (args := [.slice x0.a x0.len x0.cap]) follows Try.func150 rfl (by kernel_rfl) ?_
  apply by_eq h
  kernel_rfl

/-- creel/crc.Sum -/
def ir156 (x0 : SV) (w0 : World) (R : Value → World → Prop) : Prop :=
  Calls Pr 167 #[(.int .u32 0), (.slice x0.a x0.len x0.cap)] w0 fun e1 w1 =>
    ∃ (n1 : Int),
    e1 = .returned (.int .u32 n1) ∧
    R (.int .u32 n1) w1

theorem call156 {x0 : SV} {w0 : World} {R : Ending → World → Prop} (h : ir156 x0 w0 fun v w => R (.returned v) w) : Calls Pr 156 #[.slice x0.a x0.len x0.cap] w0 R := by
  refine calls_of_vc (ann := []) (E := []) (args := [.slice x0.a x0.len x0.cap]) follows Try.func156 rfl (by kernel_rfl) ?_
  apply by_eq h
  kernel_rfl

/-- creel/creelref02.Add -/
def ir162 (x0 : Int) (x1 : SV) (w0 : World) (R : Value → World → Prop) : Prop :=
  LoopT (σ := Int × Int × Unit) (fun σ1 w1 K1 =>
    ∀ _ : Env,
    brc (decide (σ1.1 < ((x1.len : Nat) : Int)))
      (((0 : Int) ≤ σ1.1 ∧ σ1.1 < ((x1.len : Nat) : Int)) ∧
        optK x1.a fun a1 =>
          ∃ (n1 : Int),
          At Pr w1 (loadVar 5 (Addr.add a1 (Int.toNat σ1.1 * 1))) (.int .u8 n1) ∧
          (256 : Int) ≠ 0 ∧
          Calls Pr 179 #[(.int .u32 (Int.tmod (IntKind.wrap .u32 ((BitVec.ofInt (IntKind.bits .u32) σ1.2.1 ^^^ BitVec.ofInt (IntKind.bits .u32) (IntKind.wrap .u32 n1)).toNat)) 256))] w1 fun e1 w2 =>
            ∃ (n2 : Int),
            e1 = .returned (.int .u32 n2) ∧
            (256 : Int) ≠ 0 ∧
            K1 (IntKind.wrap .i64 (σ1.1 + 1), IntKind.wrap .u32 ((BitVec.ofInt (IntKind.bits .u32) n2 ^^^ BitVec.ofInt (IntKind.bits .u32) (IntKind.wrap .u32 (Int.tdiv σ1.2.1 256))).toNat), ()) w2)
      (R (.int .u32 (IntKind.wrap .u32 ((BitVec.ofInt (IntKind.bits .u32) 4294967295 ^^^ BitVec.ofInt (IntKind.bits .u32) σ1.2.1).toNat))) w1)) (0, IntKind.wrap .u32 ((BitVec.ofInt (IntKind.bits .u32) 4294967295 ^^^ BitVec.ofInt (IntKind.bits .u32) x0).toNat), ()) w0

theorem call162 {x0 : Int} {x1 : SV} {w0 : World} {R : Ending → World → Prop} (h : ir162 x0 x1 w0 fun v w => R (.returned v) w) : Calls Pr 162 #[.int .u32 x0, .slice x1.a x1.len x1.cap] w0 R := by
  refine calls_of_vc (ann := [(3, [(6, .int .i64), (5, .int .u32)])]) (E := []) (args := [.int .u32 x0, .slice x1.a x1.len x1.cap]) follows Try.func162 rfl (by kernel_rfl) ?_
  apply by_eq h
  kernel_rfl

/-- creel/crc.Add -/
def ir167 (x0 : Int) (x1 : SV) (w0 : World) (R : Value → World → Prop) : Prop :=
  Calls Pr 181 #[] w0 fun e1 w1 =>
    ∃ (arr1 : Array Value),
    e1 = .returned (.agg arr1) ∧
    ∃ (a1 : Addr) (w2 : World),
    Sem.run Pr (Instr.alloc 234 true (.tuple #[])) w1 = .ok (.pointer (some a1)) w2 ∧
    ∃ (w3 : World),
    Sem.run Pr (Instr.storeAt 234 (.pointer (some a1)) (.agg arr1)) w2 = .ok () w3 ∧
    LoopT (σ := Int × Int × Unit) (fun σ1 w4 K1 =>
      ∀ _ : Env,
      brc (decide (σ1.1 < ((x1.len : Nat) : Int)))
        (((0 : Int) ≤ σ1.1 ∧ σ1.1 < ((x1.len : Nat) : Int)) ∧
          optK x1.a fun a2 =>
            ∃ (n1 : Int),
            At Pr w4 (loadVar 5 (Addr.add a2 (Int.toNat σ1.1 * 1))) (.int .u8 n1) ∧
            ((0 : Int) ≤ (IntKind.wrap .u8 ((BitVec.ofInt (IntKind.bits .u8) (IntKind.wrap .u8 σ1.2.1) ^^^ BitVec.ofInt (IntKind.bits .u8) n1).toNat)) ∧ (IntKind.wrap .u8 ((BitVec.ofInt (IntKind.bits .u8) (IntKind.wrap .u8 σ1.2.1) ^^^ BitVec.ofInt (IntKind.bits .u8) n1).toNat)) < ((256 : Nat) : Int)) ∧
            ∃ (n2 : Int),
            At Pr w4 (loadVar 206 (Addr.add a1 (Int.toNat (IntKind.wrap .u8 ((BitVec.ofInt (IntKind.bits .u8) (IntKind.wrap .u8 σ1.2.1) ^^^ BitVec.ofInt (IntKind.bits .u8) n1).toNat)) * 1))) (.int .u32 n2) ∧
            (0 : Int) ≤ 8 ∧
            K1 (IntKind.wrap .i64 (σ1.1 + 1), IntKind.wrap .u32 ((BitVec.ofInt (IntKind.bits .u32) n2 ^^^ BitVec.ofInt (IntKind.bits .u32) (Int.fdiv σ1.2.1 (2 ^ (min (Int.toNat 8) (IntKind.bits .u32))))).toNat), ()) w4)
        (R (.int .u32 (IntKind.wrap .u32 (BitVec.ofInt (IntKind.bits .u32) (if IntKind.signed .u32 then -1 else IntKind.max .u32) ^^^ BitVec.ofInt (IntKind.bits .u32) σ1.2.1).toNat)) w4)) (0, IntKind.wrap .u32 (BitVec.ofInt (IntKind.bits .u32) (if IntKind.signed .u32 then -1 else IntKind.max .u32) ^^^ BitVec.ofInt (IntKind.bits .u32) x0).toNat, ()) w3

theorem call167 {x0 : Int} {x1 : SV} {w0 : World} {R : Ending → World → Prop} (h : ir167 x0 x1 w0 fun v w => R (.returned v) w) : Calls Pr 167 #[.int .u32 x0, .slice x1.a x1.len x1.cap] w0 R := by
  refine calls_of_vc (ann := [(4, [(14, .int .i64), (6, .int .u32)])]) (E := []) (args := [.int .u32 x0, .slice x1.a x1.len x1.cap]) follows Try.func167 rfl (by kernel_rfl) ?_
  apply by_eq h
  kernel_rfl

/-- creel/creelref02.entry -/
def ir179 (x0 : Int) (w0 : World) (R : Value → World → Prop) : Prop :=
  LoopT (σ := Int × Int × Unit) (fun σ1 w1 K1 =>
    ∀ _ : Env,
    brc (decide (σ1.1 < (8 : Int)))
      ((2 : Int) ≠ 0 ∧
        brc ((Int.tmod σ1.2.1 2) == (1 : Int))
          ((2 : Int) ≠ 0 ∧
            K1 (IntKind.wrap .i64 (σ1.1 + 1), IntKind.wrap .u32 ((BitVec.ofInt (IntKind.bits .u32) (IntKind.wrap .u32 (Int.tdiv σ1.2.1 2)) ^^^ BitVec.ofInt (IntKind.bits .u32) 2197175160).toNat), ()) w1)
          ((2 : Int) ≠ 0 ∧
            K1 (IntKind.wrap .i64 (σ1.1 + 1), IntKind.wrap .u32 (Int.tdiv σ1.2.1 2), ()) w1))
      (R (.int .u32 σ1.2.1) w1)) (0, x0, ()) w0

theorem call179 {x0 : Int} {w0 : World} {R : Ending → World → Prop} (h : ir179 x0 w0 fun v w => R (.returned v) w) : Calls Pr 179 #[.int .u32 x0] w0 R := by
  refine calls_of_vc (ann := [(2, [(3, .int .i64), (0, .int .u32)])]) (E := []) (args := [.int .u32 x0]) follows Try.func179 rfl (by kernel_rfl) ?_
  apply by_eq h
  kernel_rfl

/-- creel/crc.Table -/
def ir181 (w0 : World) (R : Value → World → Prop) : Prop :=
  ∃ (a1 : Addr) (w1 : World),
  Sem.run Pr (Instr.alloc 234 true (.tuple #[])) w0 = .ok (.pointer (some a1)) w1 ∧
  ∃ (a2 : Addr) (w2 : World),
  Sem.run Pr (Instr.alloc 234 true (.tuple #[])) w1 = .ok (.pointer (some a2)) w2 ∧
  LoopT (σ := Int × Unit) (fun σ1 w3 K1 =>
    ∀ _ : Env,
    brc (decide (σ1.1 < (256 : Int)))
      (LoopT (σ := Int × Int × Unit) (fun σ2 w4 K2 =>
          ∀ _ : Env,
          brc (decide (σ2.1 < (8 : Int)))
            ((0 : Int) ≤ 1 ∧
              K2 (IntKind.wrap .i64 (σ2.1 + 1), IntKind.wrap .u32 ((BitVec.ofInt (IntKind.bits .u32) (Int.fdiv σ2.2.1 (2 ^ (min (Int.toNat 1) (IntKind.bits .u32)))) ^^^ BitVec.ofInt (IntKind.bits .u32) (IntKind.wrap .u32 ((BitVec.ofInt (IntKind.bits .u32) 2197175160 &&& BitVec.ofInt (IntKind.bits .u32) (IntKind.wrap .u32 (0 - (IntKind.wrap .u32 ((BitVec.ofInt (IntKind.bits .u32) σ2.2.1 &&& BitVec.ofInt (IntKind.bits .u32) 1).toNat))))).toNat))).toNat), ()) w4)
            (((0 : Int) ≤ σ1.1 ∧ σ1.1 < ((256 : Nat) : Int)) ∧
              ∃ (w5 : World),
              Sem.run Pr (Instr.storeAt 206 (.pointer (some (Addr.add a2 (Int.toNat σ1.1 * 1)))) (.int .u32 σ2.2.1)) w4 = .ok () w5 ∧
              K1 (IntKind.wrap .i64 (σ1.1 + 1), ()) w5)) (0, IntKind.wrap .u32 σ1.1, ()) w3)
      (∃ (arr1 : Array Value),
        At Pr w3 (loadVar 234 a2) (.agg arr1) ∧
        ∃ (w6 : World),
        Sem.run Pr (Instr.storeAt 234 (.pointer (some a1)) (.agg arr1)) w3 = .ok () w6 ∧
        ∃ (arr2 : Array Value),
        At Pr w6 (loadVar 234 a1) (.agg arr2) ∧
        R (.agg arr2) w6)) (0, ()) w2

theorem call181 {w0 : World} {R : Ending → World → Prop} (h : ir181 w0 fun v w => R (.returned v) w) : Calls Pr 181 #[] w0 R := by
  refine calls_of_vc (ann := [(3, [(4, .int .i64)]), (7, [(9, .int .i64), (3, .int .u32)])]) (E := []) (args := []) follows Try.func181 rfl (by kernel_rfl) ?_
  apply by_eq h
  kernel_rfl

end Go.Proofs.Ytonjaaljnjjjcaa

/- Contracts: bytes. Conditions: as each lemma says. -/
set_option linter.unusedVariables false
set_option linter.unusedSimpArgs false
namespace Go.Proofs.Ytonjaaljnjjjcaa
open Go Go.RowKit

/-- slices.Clone of bytes. -/
theorem k88 {E w : World} {L : List Chunk} {s : SV} {l : List UInt8} (hS : Sep E w L) (hr : RdB L s l) (hb : l.length ≤ 1099511627776) :
    Calls Pr 88 #[.slice s.a s.len s.cap] w fun e w' => ∃ (s' : SV) (C : List Chunk), e = .returned (.slice s'.a s'.len s'.cap) ∧ Own 5 1 s' (l.map byteV) C ∧ Sep E w' (C ++ L) := by
  refine call88 ?_
  unfold ir88
  have hsz := hr.size
  refine ⟨s.a.isNone, at_nilslice (T := 5) (by kernel_rfl) _ _ _ _, brc_intro (fun h => ?_) (fun h => ?_)⟩
  · have h0 : l = [] := List.eq_nil_of_length_eq_zero (by rw [← hsz]; exact hr.nil (by simpa using h))
    subst h0
    exact ⟨SV.nil, [], rfl, Own.nil _ _, hS⟩
  · obtain ⟨b, w1, h1, hS1⟩ := hS.buildSlice (t := 26) (T := 5) (len := 0) (parts := []) (vs := []) (by kernel_rfl) (by kernel_rfl)
    refine ⟨⟨some ⟨b, 0, none⟩, 0, 0⟩, w1, h1, ?_⟩
    have ho : Own 5 1 ⟨some ⟨b, 0, none⟩, 0, 0⟩ [] [(b, .cells #[] 5 (0, 0))] := Own.new (n := 0) rfl (Nat.zero_le _)
    obtain ⟨s', w2, C, h2, ho', _, hS2⟩ := Sep.append (ty := 26) tiB (L := [(b, .cells #[] 5 (0, 0))]) (F := L) hS1 ho ((hr.right [(b, .cells #[] 5 (0, 0))]).src hS1 fun c hc => hc) (byteV_one l) (by simp only [hsz]; omega) (by simp only [hsz]; unfold maxLen; omega)
    exact ⟨s', w2, h2, s', C, rfl, by simpa using ho', hS2⟩

/-- bytes.Equal. -/
theorem k81 {E w : World} {L : List Chunk} {s t : SV} {l m : List UInt8} (hS : Sep E w L) (hr : RdB L s l) (ht : RdB L t m) :
    Calls Pr 81 #[.slice s.a s.len s.cap, .slice t.a t.len t.cap] w fun e w' => e = .returned (.bool (decide (l = m))) ∧ Sep E w' L := by
  refine call81 ?_
  unfold ir81
  refine ⟨_, hS.toStr hr (fun c hc => hc) (by kernel_rfl) (by kernel_rfl), _, hS.toStr ht (fun c hc => hc) (by kernel_rfl) (by kernel_rfl), ?_, hS⟩
  rw [ba_eq_toList]
  congr 2
  rw [decide_eq_decide]
  exact strOf_inj

theorem at_cap {w : World} {t T ty : TypeId} (ht : Pr.underlying t = some (.slice T)) (a : Option Addr) (l c : Nat) : At Pr w (Builtin.cap_ #[t] ty #[.slice a l c]) (.int .i64 (c : Int)) := by
  unfold At
  simp [Builtin.cap_, run_underlying ht, goInt]

theorem grow_zero (w : World) (z : Value) (hz : z.cells.size = 1) (n : Nat) : (Builtin.zeroCells z.cells n).size = n := by simp [Builtin.zeroCells, hz]

/-- slices.Grow of nil. -/
theorem k140 {E w : World} {L : List Chunk} (hS : Sep E w L) {n : Nat} (hb : n ≤ 1099511627776) :
    Calls Pr 140 #[.slice none 0 0, .int .i64 (n : Int)] w fun e w' => ∃ (s' : SV) (C : List Chunk), e = .returned (.slice s'.a s'.len s'.cap) ∧ Own 5 1 s' [] C ∧ s'.len = 0 ∧ Sep E w' (C ++ L) := by
  refine call140 (x0 := SV.nil) ?_
  unfold ir140
  refine brc_false (by simp) ?_
  refine ⟨0, at_cap (T := 5) (by kernel_rfl) _ _ _, ?_⟩
  have hw : IntKind.wrap .i64 ((n : Int) - IntKind.wrap .i64 (0 - ((SV.nil.len : Nat) : Int))) = n := by
    show IntKind.wrap .i64 ((n : Int) - IntKind.wrap .i64 (0 - 0)) = n
    rw [w64 (n := 0 - 0) (by omega) (by omega), w64 (by omega) (by omega)]
    omega
  rw [hw]
  refine brc_intro (fun h => ?_) (fun h => ?_)
  · have h : 0 < n := by simpa using h
    obtain ⟨i, hi, hz, hsz, hby⟩ := info_parts tiB.info
    refine ⟨0, at_cap (T := 5) (by kernel_rfl) _ _ _, ⟨by omega, by simp⟩, ?_⟩
    have hrun := Lib.run_append_nil_zeros (P := Pr) w 26 3 26 5 i _ .i64 .i64 tiB.und (by kernel_rfl) hi hz n h (by omega) (by omega) (by rw [hby]; omega)
    refine ⟨⟨some ⟨w.heap.size, 0, none⟩, n, grownCap w n 0 5⟩, _, hrun, ⟨by show (0 : Int) ≤ 0; omega, by show (0 : Int) ≤ _; omega⟩, ?_⟩
    have hgc : n ≤ grownCap w n 0 5 := grownCap_ge w n 0 5
    have hgm : grownCap w n 0 5 ≤ maxLen := grownCap_le_maxLen w n 0 5 (by unfold maxLen; omega)
    refine ⟨⟨some ⟨w.heap.size, 0, none⟩, 0, grownCap w n 0 5⟩, _, ?_, ⟨rfl, .inr ⟨w.heap.size, _, rfl, rfl, Nat.zero_le _, hgm, ?_, by simp⟩⟩, rfl, hS.drew.push _⟩
    · rw [cutAt_zero]
      rfl
    · rw [Array.size_append, grow_zero w _ rfl, grow_zero w _ rfl]
      show n + (grownCap w n 0 5 - n) = grownCap w n 0 5 * 1
      omega
  · exact ⟨SV.nil, [], rfl, Own.nil _ _, rfl, hS⟩

theorem RdBs.at_ {I : List Chunk} {ss : List SV} {ls : List (List UInt8)} (h : RdBs I ss ls) {k : Nat} (hk : k < ls.length) : ∃ s l, ss[k]? = some s ∧ ls[k]? = some l ∧ RdB I s l ∧ ls.drop k = l :: ls.drop (k + 1) := by
  have hk' : k < ss.length := by rw [h.1]; exact hk
  exact ⟨ss[k], ls[k], by simp, by simp, h.2 k _ _ (by simp) (by simp), List.drop_eq_getElem_cons hk⟩

theorem flat_len_take (ls : List (List UInt8)) (k : Nat) : (ls.take k).flatten.length ≤ ls.flatten.length := by
  conv => rhs; rw [← List.take_append_drop k ls]
  rw [List.flatten_append, List.length_append]
  omega
theorem take_flat {ls : List (List UInt8)} {k : Nat} {l : List UInt8} (h : ls[k]? = some l) : (ls.take (k + 1)).flatten = (ls.take k).flatten ++ l := by
  rw [List.take_add_one, h]
  simp

/-- slices.Concat of bytes. -/
theorem k94 {E w : World} {L : List Chunk} {s : SV} {ss : List SV} {ls : List (List UInt8)} (hS : Sep E w L) (hr : RdS L 1 s (ss.map slV)) (hs : RdBs L ss ls) (hn : ls.length ≤ 1099511627776) (hb : ls.flatten.length ≤ 1099511627776) :
    Calls Pr 94 #[.slice s.a s.len s.cap] w fun e w' => ∃ (s' : SV) (C : List Chunk), e = .returned (.slice s'.a s'.len s'.cap) ∧ Own 5 1 s' (ls.flatten.map byteV) C ∧ Sep E w' (C ++ L) := by
  refine call94 ?_
  unfold ir94
  have hsz : s.len = ls.length := by rw [hr.len1, List.length_map, hs.1]
  refine ⟨fun n σ w1 => ∃ k : Nat, k ≤ ls.length ∧ n = ls.length - k ∧ σ = ((k : Int), (((ls.take k).flatten.length : Nat) : Int), ()) ∧ Sep E w1 L, ls.length, ⟨0, Nat.zero_le _, rfl, by simp, hS⟩, ?_⟩
  rintro n σ w1 ⟨k, hk, rfl, rfl, hS1⟩ _
  dsimp only
  refine brc_intro (fun h => ?_) (fun h => ?_)
  · have h : k < ls.length := by simp at h; omega
    obtain ⟨x, l, hx, hl, hrx, _⟩ := hs.at_ h
    obtain ⟨a, ha, hat⟩ := hr.idx (i := k) (v := slV x) (by simp [hx]) hS1 (fun c hc => hc) (t := 26) (by kernel_rfl)
    have hf := take_flat hl
    have hf' := flat_len_take ls (k + 1)
    have hw : IntKind.wrap .i64 ((((ls.take k).flatten.length : Nat) : Int) + ((x.len : Nat) : Int)) = (((ls.take (k + 1)).flatten.length : Nat) : Int) := by
      rw [hrx.size, hf, List.length_append, w64 (by omega) (by rw [hf, List.length_append] at hf'; omega)]
      omega
    refine ⟨⟨by omega, by omega⟩, ?_⟩
    rw [ha]
    refine ⟨x, by simpa using hat, ?_⟩
    rw [hw]
    refine brc_false (decide_eq_false (by omega)) ?_
    refine ⟨ls.length - (k + 1), by omega, k + 1, by omega, rfl, ?_, hS1⟩
    rw [w64 (by omega) (by omega)]
    rfl
  · have h : k = ls.length := by simp at h; omega
    subst h
    rw [List.take_length]
    refine (k140 hS1 hb).mono ?_
    rintro _ w2 ⟨s2, C, rfl, ho, hl0, hS2⟩
    refine ⟨s2, rfl, ?_⟩
    refine ⟨fun n σ w3 => ∃ (k : Nat) (C : List Chunk), k ≤ ls.length ∧ n = ls.length - k ∧ σ.1 = (k : Int) ∧ Own 5 1 σ.2.1 ((ls.take k).flatten.map byteV) C ∧ Sep E w3 (C ++ L), ls.length, ⟨0, C, Nat.zero_le _, rfl, rfl, by simpa using ho, hS2⟩, ?_⟩
    rintro n ⟨i, s3, u⟩ w3 ⟨k, C, hk, rfl, hi, ho, hS3⟩ _
    dsimp only at hi ho ⊢
    subst hi
    refine brc_intro (fun h => ?_) (fun h => ?_)
    · have h : k < ls.length := by simp at h; omega
      obtain ⟨x, l, hx, hl, hrx, _⟩ := hs.at_ h
      obtain ⟨a, ha, hat⟩ := hr.idx (i := k) (v := slV x) (by simp [hx]) hS3 (fun c hc => List.mem_append_right _ hc) (t := 26) (by kernel_rfl)
      have hf := take_flat hl
      have hf' := flat_len_take ls (k + 1)
      refine ⟨⟨by omega, by omega⟩, ?_⟩
      rw [ha]
      refine ⟨x, by simpa using hat, ?_⟩
      have hlen := ho.rds.len1
      rw [List.length_map] at hlen
      rw [hf, List.length_append] at hf'
      have hxs := hrx.size
      obtain ⟨s4, w4, C', h2, ho', _, hS4⟩ := Sep.append (ty := 26) tiB hS3 ho ((hrx.right C).src hS3 fun c hc => hc) (byteV_one l) (by rw [hlen, hxs]; omega) (by rw [hlen, hxs]; unfold maxLen; omega)
      refine ⟨s4, w4, h2, ls.length - (k + 1), by omega, k + 1, C', by omega, rfl, ?_, ?_, hS4⟩
      · rw [w64 (by omega) (by omega)]
        rfl
      · rw [hf, List.map_append]
        exact ho'
    · have h : k = ls.length := by simp at h; omega
      subst h
      rw [List.take_length] at ho
      exact ⟨s3, C, rfl, ho, hS3⟩

end Go.Proofs.Ytonjaaljnjjjcaa

/- Contracts: sums of bytes, of the program and of the reference. Conditions: as each lemma says. -/
set_option linter.unusedVariables false
set_option linter.unusedSimpArgs false
namespace Go.Proofs.Ytonjaaljnjjjcaa
open Go Go.RowKit

/-! ### The sum -/
def crcStep (c : Nat) : Nat := if c % 2 = 1 then (c / 2) ^^^ 2197175160 else c / 2
def crcIt : Nat → Nat → Nat
  | 0, c => c
  | n + 1, c => crcStep (crcIt n c)
def crcEntry (i : Nat) : Nat := crcIt 8 i
def crcOne (c : Nat) (b : UInt8) : Nat := crcEntry ((c ^^^ b.toNat) % 256) ^^^ (c / 256)
def crcSum (l : List UInt8) : Nat := 4294967295 ^^^ l.foldl crcOne (4294967295 ^^^ 0)

theorem xor_lt {x y : Nat} (hx : x < 4294967296) (hy : y < 4294967296) : x ^^^ y < 4294967296 := Nat.xor_lt_two_pow (n := 32) hx hy
theorem crcStep_lt {c : Nat} (h : c < 4294967296) : crcStep c < 4294967296 := by
  unfold crcStep
  split
  · exact xor_lt (by omega) (by omega)
  · omega
theorem crcIt_lt {c : Nat} (h : c < 4294967296) : ∀ n, crcIt n c < 4294967296
  | 0 => h
  | n + 1 => crcStep_lt (crcIt_lt h n)
theorem crcEntry_lt {c : Nat} (h : c < 4294967296) : crcEntry c < 4294967296 := crcIt_lt h 8
theorem crcOne_lt {c : Nat} (h : c < 4294967296) (b : UInt8) : crcOne c b < 4294967296 := xor_lt (crcIt_lt (by omega) 8) (by omega)
theorem crcFold_lt : ∀ (l : List UInt8) {c : Nat}, c < 4294967296 → l.foldl crcOne c < 4294967296
  | [], _, h => h
  | b :: l, _, h => crcFold_lt l (crcOne_lt h b)
theorem crcSum_lt (l : List UInt8) : crcSum l < 4294967296 := xor_lt (by omega) (crcFold_lt l (by decide))

/-! ### Whole numbers of a kind, as natural numbers -/
theorem wu32 {x : Nat} (h : x < 4294967296) : IntKind.wrap .u32 ((x : Nat) : Int) = ((x : Nat) : Int) := by rw [IntKind.wrap_u32]; omega
theorem wu8 (x : Nat) : IntKind.wrap .u8 ((x : Nat) : Int) = ((x % 256 : Nat) : Int) := by rw [IntKind.wrap_u8]; omega
theorem u32_xor {x y : Nat} (hx : x < 4294967296) (hy : y < 4294967296) :
    IntKind.wrap .u32 (((BitVec.ofInt (IntKind.bits .u32) ((x : Nat) : Int) ^^^ BitVec.ofInt (IntKind.bits .u32) ((y : Nat) : Int)).toNat : Nat) : Int) = ((x ^^^ y : Nat) : Int) := by
  change IntKind.wrap .u32 (((BitVec.ofInt 32 ((x : Nat) : Int) ^^^ BitVec.ofInt 32 ((y : Nat) : Int)).toNat : Nat) : Int) = _
  rw [BitVec.ofInt_natCast, BitVec.ofInt_natCast, BitVec.toNat_xor, BitVec.toNat_ofNat, BitVec.toNat_ofNat, Nat.mod_eq_of_lt hx, Nat.mod_eq_of_lt hy]
  exact wu32 (xor_lt hx hy)
theorem u8_xor {x y : Nat} (hx : x < 256) (hy : y < 256) :
    IntKind.wrap .u8 (((BitVec.ofInt (IntKind.bits .u8) ((x : Nat) : Int) ^^^ BitVec.ofInt (IntKind.bits .u8) ((y : Nat) : Int)).toNat : Nat) : Int) = ((x ^^^ y : Nat) : Int) := by
  change IntKind.wrap .u8 (((BitVec.ofInt 8 ((x : Nat) : Int) ^^^ BitVec.ofInt 8 ((y : Nat) : Int)).toNat : Nat) : Int) = _
  rw [BitVec.ofInt_natCast, BitVec.ofInt_natCast, BitVec.toNat_xor, BitVec.toNat_ofNat, BitVec.toNat_ofNat, Nat.mod_eq_of_lt hx, Nat.mod_eq_of_lt hy, wu8]
  have : x ^^^ y < 2 ^ 8 := Nat.xor_lt_two_pow hx hy
  rw [Nat.mod_eq_of_lt this]

theorem step_prog {c : Nat} (h : c < 4294967296) :
    IntKind.wrap .u32 (((BitVec.ofInt (IntKind.bits .u32) (Int.fdiv ((c : Nat) : Int) (2 ^ (min (Int.toNat 1) (IntKind.bits .u32)))) ^^^ BitVec.ofInt (IntKind.bits .u32) (IntKind.wrap .u32 ((BitVec.ofInt (IntKind.bits .u32) 2197175160 &&& BitVec.ofInt (IntKind.bits .u32) (IntKind.wrap .u32 (0 - (IntKind.wrap .u32 ((BitVec.ofInt (IntKind.bits .u32) ((c : Nat) : Int) &&& BitVec.ofInt (IntKind.bits .u32) 1).toNat))))).toNat))).toNat : Nat) : Int) = ((crcStep c : Nat) : Int) := by
  have h1 : (BitVec.ofInt (IntKind.bits .u32) ((c : Nat) : Int) &&& BitVec.ofInt (IntKind.bits .u32) 1).toNat = c % 2 := by
    change (BitVec.ofInt 32 ((c : Nat) : Int) &&& BitVec.ofInt 32 ((1 : Nat) : Int)).toNat = _
    rw [BitVec.ofInt_natCast, BitVec.ofInt_natCast, BitVec.toNat_and, BitVec.toNat_ofNat, BitVec.toNat_ofNat, Nat.mod_eq_of_lt h]
    exact Nat.and_one_is_mod c
  have h2 : Int.fdiv ((c : Nat) : Int) (2 ^ (min (Int.toNat 1) (IntKind.bits .u32))) = ((c / 2 : Nat) : Int) := by
    change Int.fdiv ((c : Nat) : Int) 2 = _
    rw [Int.fdiv_eq_ediv_of_nonneg _ (by omega)]
    omega
  rw [h1, h2, wu32 (x := c % 2) (by omega)]
  unfold crcStep
  split
  · rename_i hc
    rw [hc]
    have h3 : IntKind.wrap .u32 (((BitVec.ofInt (IntKind.bits .u32) 2197175160 &&& BitVec.ofInt (IntKind.bits .u32) (IntKind.wrap .u32 (0 - (((1 : Nat) : Nat) : Int)))).toNat : Nat) : Int) = ((2197175160 : Nat) : Int) := by kernel_rfl
    rw [h3]
    exact u32_xor (by omega) (by omega)
  · rename_i hc
    have hc : c % 2 = 0 := by omega
    rw [hc]
    have h3 : IntKind.wrap .u32 (((BitVec.ofInt (IntKind.bits .u32) 2197175160 &&& BitVec.ofInt (IntKind.bits .u32) (IntKind.wrap .u32 (0 - (((0 : Nat) : Nat) : Int)))).toNat : Nat) : Int) = ((0 : Nat) : Int) := by kernel_rfl
    rw [h3, u32_xor (by omega) (by omega), Nat.xor_zero]

/-! ### The program's table -/
def tabL (k : Nat) : List Value := (List.range 256).map fun i => if i < k then .int .u32 ((crcEntry i : Nat) : Int) else .int .u32 0

theorem tabL_len (k : Nat) : (tabL k).length = 256 := by simp [tabL]
theorem spl_one (cs : List Value) (o : Nat) (v : Value) (h : o < cs.length) : spl cs o [v] = cs.set o v := by
  unfold spl
  rw [List.set_eq_take_append_cons_drop, if_pos h]
  simp
theorem tabL_set (k : Nat) (h : k < 256) : spl (tabL k) k [.int .u32 ((crcEntry k : Nat) : Int)] = tabL (k + 1) := by
  rw [spl_one _ _ _ (by rw [tabL_len]; exact h)]
  apply List.ext_getElem
  · simp [tabL]
  · intro i h1 h2
    simp only [tabL, List.getElem_set, List.getElem_map, List.getElem_range]
    by_cases hi : k = i
    · subst hi; simp
    · rw [if_neg hi]
      by_cases h3 : i < k
      · rw [if_pos h3, if_pos (by omega)]
      · rw [if_neg h3, if_neg (by omega)]

set_option maxRecDepth 100000 in
theorem z234 : (Pr.info? 234).bind (·.zero) = some (.agg (tabL 0).toArray) := by kernel_rfl

theorem k181 {E w : World} {L : List Chunk} (hS : Sep E w L) : Calls Pr 181 #[] w fun e w' => e = .returned (.agg (tabL 256).toArray) ∧ ∃ C, Sep E w' (C ++ L) := by
  refine call181 ?_
  unfold ir181
  obtain ⟨b1, w1, h1, hS1⟩ := hS.alloc (t := 234) z234
  obtain ⟨b2, w2, h2, hS2⟩ := hS1.alloc (t := 234) z234
  refine ⟨_, w1, h1, _, w2, h2, ?_⟩
  refine ⟨fun n σ w3 => ∃ k : Nat, k ≤ 256 ∧ n = 256 - k ∧ σ = ((k : Int), ()) ∧ Sep E w3 ((b2, .cells (tabL k).toArray 234 (0, 0)) :: (b1, .cells (tabL 0).toArray 234 (0, 0)) :: L), 256, ⟨0, by omega, rfl, rfl, hS2⟩, ?_⟩
  rintro n σ w3 ⟨k, hk, rfl, rfl, hS3⟩ _
  dsimp only
  generalize hN : decide (((k : Nat) : Int) < (256 : Int)) = tN
  refine brc_intro (fun h => ?_) (fun h => ?_)
  · have h : k < 256 := by rw [← hN] at h; simp at h; omega
    refine ⟨fun n σ w4 => ∃ i : Nat, i ≤ 8 ∧ n = 8 - i ∧ σ = ((i : Int), ((crcIt i k : Nat) : Int), ()) ∧ w4 = w3, 8, ⟨0, by omega, rfl, ?_, rfl⟩, ?_⟩
    · rw [wu32 (by omega)]
      rfl
    rintro n σ w4 ⟨i, hi, rfl, rfl, rfl⟩ _
    dsimp only
    refine brc_intro (fun h' => ?_) (fun h' => ?_)
    · have h' : i < 8 := by simp at h'; omega
      refine ⟨by omega, 8 - (i + 1), by omega, i + 1, by omega, rfl, ?_, rfl⟩
      rw [step_prog (crcIt_lt (by omega) i), w64 (by omega) (by omega)]
      rfl
    · have h' : i = 8 := by simp at h'; omega
      subst h'
      refine ⟨⟨by omega, by omega⟩, ?_⟩
      obtain ⟨w5, h5, hS5⟩ := hS3.store (o := k) (n := 1) (v := .int .u32 ((crcIt 8 k : Nat) : Int)) (t := 206) (by kernel_rfl) rfl (by rw [tabL_len]; omega) (by simp [Value.cells, Value.oneCell'])
      refine ⟨w5, by rw [addr_add]; simpa using h5, 256 - (k + 1), by omega, k + 1, by omega, rfl, ?_, ?_⟩
      · rw [w64 (by omega) (by omega)]
        rfl
      · rw [← tabL_set k h]
        exact hS5
  · have h : k = 256 := by rw [← hN] at h; simp at h; omega
    clear hN
    subst h
    refine ⟨_, hS3.loadS (o := 0) (n := 256) (vs := tabL 256) List.mem_cons_self (by kernel_rfl) (by kernel_rfl) (by rw [List.drop_zero]; exact List.take_of_length_le (by rw [tabL_len]; omega)) (by simp [tabL_len]), ?_⟩
    have hS4 : Sep E w3 ((b1, .cells (tabL 0).toArray 234 (0, 0)) :: (b2, .cells (tabL 256).toArray 234 (0, 0)) :: L) := hS3.weak (by intro f; simp only [ms_append, ms_cons, ms_nil]; omega)
    obtain ⟨w5, h5, hS5⟩ := hS4.store (o := 0) (n := 256) (v := .agg (tabL 256).toArray) (t := 234) (by kernel_rfl) (by simp [Value.cells, tabL_len]) (by rw [tabL_len]; omega) (by
      intro u hu
      simp only [Value.cells, tabL, List.mem_map] at hu
      obtain ⟨i, _, rfl⟩ := hu
      split <;> rfl)
    refine ⟨w5, h5, ?_⟩
    have hsp : spl (tabL 0) 0 (Value.agg (tabL 256).toArray).cells.toList = tabL 256 := by
      simp only [spl, Value.cells, List.take_zero, List.nil_append, Nat.zero_add]
      rw [List.drop_of_length_le (by rw [tabL_len, tabL_len]; omega), List.append_nil]
    rw [hsp] at hS5
    refine ⟨_, hS5.loadS (o := 0) (n := 256) (vs := tabL 256) List.mem_cons_self (by kernel_rfl) (by kernel_rfl) (by rw [List.drop_zero]; exact List.take_of_length_le (by rw [tabL_len]; omega)) (by simp [tabL_len]), rfl, [_, _], hS5⟩

end Go.Proofs.Ytonjaaljnjjjcaa

set_option linter.unusedVariables false
set_option linter.unusedSimpArgs false
namespace Go.Proofs.Ytonjaaljnjjjcaa
open Go Go.RowKit

theorem byteV_ofNat (x : Nat) : byteV (UInt8.ofNat x) = .int .u8 ((x % 256 : Nat) : Int) := by
  unfold byteV
  rw [UInt8.toNat_ofNat']

theorem Sep.litB {E w : World} {L : List Chunk} (hS : Sep E w L) {n : Nat} {parts : List (Nat × Value)} {l : List UInt8} (hl : l.length = n) (hn : n ≤ 1099511627776) (hv : bsV Pr 26 n parts = some (l.map byteV)) :
    ∃ (s : SV) (w' : World) (C : List Chunk), Sem.run Pr (Instr.buildSlice 26 n parts.toArray) w = .ok (.slice s.a s.len s.cap) w' ∧ Own 5 1 s (l.map byteV) C ∧ Sep E w' (C ++ L) := by
  obtain ⟨b, w1, h1, hS1⟩ := hS.buildSlice (t := 26) (T := 5) (by kernel_rfl) hv
  exact ⟨⟨some ⟨b, 0, none⟩, n, n⟩, w1, _, h1, Own.new (by simp [hl]) (by unfold maxLen; omega), hS1⟩

theorem Sep.appB {E w : World} {C L : List Chunk} {s x : SV} {l m : List UInt8} (hS : Sep E w (C ++ L)) (ho : Own 5 1 s (l.map byteV) C) (hx : RdB (C ++ L) x m) (hb : l.length + m.length ≤ 35184372088832) {ty : Nat} :
    ∃ (s' : SV) (w' : World) (C' : List Chunk), Sem.run Pr (Builtin.append_ #[26, 26] ty #[.slice s.a s.len s.cap, .slice x.a x.len x.cap]) w = .ok (.slice s'.a s'.len s'.cap) w' ∧ Own 5 1 s' ((l ++ m).map byteV) C' ∧ Sep E w' (C' ++ L) := by
  have h1 := ho.rds.len1
  have h2 := hx.size
  rw [List.length_map] at h1
  obtain ⟨s', w', C', h, ho', _, hS'⟩ := Sep.append (ty := ty) tiB hS ho (hx.src hS fun c hc => hc) (byteV_one m) (by rw [h1, h2]; omega) (by rw [h1, h2]; unfold maxLen; omega)
  exact ⟨s', w', C', h, by rw [List.map_append]; exact ho', hS'⟩

theorem Own.size {s : SV} {l : List UInt8} {C : List Chunk} (h : Own 5 1 s (l.map byteV) C) : s.len = l.length := by
  have := h.rds.len1
  rwa [List.length_map] at this

/-- slices.Clone: 'append([]T{}, x...)'. -/
theorem Sep.clone {E w : World} {L : List Chunk} (hS : Sep E w L) {x : SV} {m : List UInt8} (hx : RdB L x m) (hb : m.length ≤ 35184372088832) {ty : Nat} :
    ∃ (s1 : SV) (w1 : World), Sem.run Pr (Instr.buildSlice 26 0 #[]) w = .ok (.slice s1.a s1.len s1.cap) w1 ∧ ∃ (s' : SV) (w' : World) (C' : List Chunk),
      Sem.run Pr (Builtin.append_ #[26, 26] ty #[.slice s1.a s1.len s1.cap, .slice x.a x.len x.cap]) w1 = .ok (.slice s'.a s'.len s'.cap) w' ∧ Own 5 1 s' (m.map byteV) C' ∧ Sep E w' (C' ++ L) := by
  obtain ⟨s1, w1, C, h1, ho, hS1⟩ := hS.litB (n := 0) (parts := []) (l := []) rfl (by omega) (by kernel_rfl)
  obtain ⟨s', w', C', h2, ho', hS2⟩ := hS1.appB (ty := ty) ho (hx.right C) (by simpa using hb)
  exact ⟨s1, w1, h1, s', w', C', h2, ho', hS2⟩

theorem tab_at (i : Nat) (h : i < 256) : ((tabL 256).toArray : Array Value)[i]? = some (.int .u32 ((crcEntry i : Nat) : Int)) := by
  simp [tabL, h]

theorem mix_prog {c : Nat} (h : c < 4294967296) (b : UInt8) :
    IntKind.wrap .u8 (((BitVec.ofInt (IntKind.bits .u8) (IntKind.wrap .u8 ((c : Nat) : Int)) ^^^ BitVec.ofInt (IntKind.bits .u8) ((b.toNat : Nat) : Int)).toNat : Nat) : Int) = (((c ^^^ b.toNat) % 256 : Nat) : Int) := by
  rw [wu8 c, u8_xor (by omega) (by have := b.toNat_lt; omega)]
  congr 1
  have : (c ^^^ b.toNat) % 2 ^ 8 = (c % 2 ^ 8) ^^^ (b.toNat % 2 ^ 8) := Nat.xor_mod_two_pow
  have hb : b.toNat % 2 ^ 8 = b.toNat := Nat.mod_eq_of_lt b.toNat_lt
  rw [hb] at this
  exact this.symm

theorem inv_prog {c : Nat} (h : c < 4294967296) :
    IntKind.wrap .u32 (((BitVec.ofInt (IntKind.bits .u32) (if IntKind.signed .u32 then -1 else IntKind.max .u32) ^^^ BitVec.ofInt (IntKind.bits .u32) ((c : Nat) : Int)).toNat : Nat) : Int) = ((4294967295 ^^^ c : Nat) : Int) :=
  u32_xor (x := 4294967295) (by omega) h

/-- crc.Add, crc.Sum. -/
theorem k167 {E w : World} {L : List Chunk} {s : SV} {l : List UInt8} (hS : Sep E w L) (hr : RdB L s l) (hb : l.length ≤ 1099511627776) :
    Calls Pr 167 #[.int .u32 0, .slice s.a s.len s.cap] w fun e w' => e = .returned (.int .u32 ((crcSum l : Nat) : Int)) ∧ ∃ C, Sep E w' (C ++ L) := by
  refine call167 ?_
  unfold ir167
  refine (k181 hS).mono ?_
  rintro _ w1 ⟨rfl, C, hS1⟩
  refine ⟨_, rfl, ?_⟩
  obtain ⟨b1, w2, h2, hS2⟩ := hS1.alloc (t := 234) z234
  obtain ⟨w3, h3, hS3⟩ := hS2.store (o := 0) (n := 256) (v := .agg (tabL 256).toArray) (t := 234) (by kernel_rfl) (by simp [Value.cells, tabL_len]) (by rw [tabL_len]; omega) (by
    intro u hu
    simp only [Value.cells, tabL, List.mem_map] at hu
    obtain ⟨i, _, rfl⟩ := hu
    split <;> rfl)
  have hsp : spl (tabL 0) 0 (Value.agg (tabL 256).toArray).cells.toList = tabL 256 := by
    simp only [spl, Value.cells, List.take_zero, List.nil_append, Nat.zero_add]
    rw [List.drop_of_length_le (by rw [tabL_len, tabL_len]; omega), List.append_nil]
  rw [hsp] at hS3
  refine ⟨_, w2, h2, w3, h3, ?_⟩
  have hsz := hr.size
  refine ⟨fun n σ w4 => ∃ k : Nat, k ≤ l.length ∧ n = l.length - k ∧ σ = ((k : Int), (((l.take k).foldl crcOne (4294967295 ^^^ 0) : Nat) : Int), ()) ∧ w4 = w3, l.length, ⟨0, by omega, rfl, ?_, rfl⟩, ?_⟩
  · have := inv_prog (c := 0) (by omega)
    simp only [List.take_zero, List.foldl_nil]
    rw [← this]
    rfl
  rintro n σ w4 ⟨k, hk, rfl, rfl, rfl⟩ _
  dsimp only
  have hlt := crcFold_lt (l.take k) (c := 4294967295 ^^^ 0) (by decide)
  generalize hcc : (l.take k).foldl crcOne (4294967295 ^^^ 0) = c at hlt
  refine brc_intro (fun h => ?_) (fun h => ?_)
  · have h : k < l.length := by simp at h; omega
    refine ⟨⟨by omega, by omega⟩, ?_⟩
    obtain ⟨a, ha, hat⟩ := (hr.right ((b1, .cells (tabL 256).toArray 234 (0, 0)) :: C)).idx (i := k) (v := byteV l[k]) (by simp [h]) hS3 (fun c hc => hc) (t := 5) (by kernel_rfl)
    rw [ha]
    refine ⟨((l[k].toNat : Nat) : Int), by simpa [byteV] using hat, ?_⟩
    rw [mix_prog hlt]
    have hm : (c ^^^ (l[k]).toNat) % 256 < 256 := Nat.mod_lt _ (by omega)
    generalize hi : (c ^^^ (l[k]).toNat) % 256 = i at hm
    refine ⟨⟨by omega, by omega⟩, ?_⟩
    refine ⟨((crcEntry i : Nat) : Int), ?_, by omega, l.length - (k + 1), by omega, k + 1, by omega, rfl, ?_, rfl⟩
    · rw [addr_add]
      refine hS3.load (v := .int .u32 ((crcEntry i : Nat) : Int)) List.mem_cons_self ?_ (by kernel_rfl)
      have := tab_at i hm
      simpa using this
    · rw [w64 (by omega) (by omega)]
      have hd : Int.fdiv ((c : Nat) : Int) (2 ^ (min (Int.toNat 8) (IntKind.bits .u32))) = ((c / 256 : Nat) : Int) := by
        change Int.fdiv ((c : Nat) : Int) 256 = _
        rw [Int.fdiv_eq_ediv_of_nonneg _ (by omega)]
        omega
      rw [hd, u32_xor (crcEntry_lt (by omega)) (by omega)]
      have ht : l.take (k + 1) = l.take k ++ [l[k]] := by rw [List.take_add_one]; simp [h]
      rw [ht, List.foldl_append, hcc]
      simp only [List.foldl_cons, List.foldl_nil, crcOne, hi]
      rfl
  · have h : k = l.length := by simp at h; omega
    subst h
    rw [inv_prog hlt]
    rw [List.take_length] at hcc
    refine ⟨?_, _ :: C, hS3⟩
    rw [← hcc]
    rfl

theorem k156 {E w : World} {L : List Chunk} {s : SV} {l : List UInt8} (hS : Sep E w L) (hr : RdB L s l) (hb : l.length ≤ 1099511627776) :
    Calls Pr 156 #[.slice s.a s.len s.cap] w fun e w' => e = .returned (.int .u32 ((crcSum l : Nat) : Int)) ∧ ∃ C, Sep E w' (C ++ L) := by
  refine call156 ?_
  unfold ir156
  refine (k167 hS hr hb).mono ?_
  rintro _ w1 ⟨rfl, C, hS1⟩
  exact ⟨_, rfl, rfl, C, hS1⟩

/-! ### Fixed numbers -/
def bigE (n : Nat) : Nat → List UInt8
  | 0 => []
  | k + 1 => UInt8.ofNat (n / 256 ^ k) :: bigE n k
def leL (n k : Nat) : List UInt8 := (List.range k).map fun i => UInt8.ofNat (n / 256 ^ i)

theorem bigE_len (n : Nat) : ∀ k, (bigE n k).length = k
  | 0 => rfl
  | k + 1 => by simp [bigE, bigE_len n k]
theorem leL_len (n k : Nat) : (leL n k).length = k := by simp [leL]
theorem leL_succ (n k : Nat) : leL n (k + 1) = leL n k ++ [UInt8.ofNat (n / 256 ^ k)] := by simp [leL, List.range_succ]

theorem shr8 (n i B : Nat) (h : 8 * i ≤ B) (hi : i < 100) : Int.fdiv ((n : Nat) : Int) (2 ^ (min (Int.toNat (IntKind.wrap .i64 (8 * ((i : Nat) : Int)))) B)) = ((n / 256 ^ i : Nat) : Int) := by
  rw [w64 (by omega) (by omega)]
  have h1 : Int.toNat (8 * ((i : Nat) : Int)) = 8 * i := by omega
  rw [h1, Nat.min_eq_left h]
  have h2 : (2 : Int) ^ (8 * i) = ((256 ^ i : Nat) : Int) := by
    rw [Int.natCast_pow, Int.pow_mul]
    rfl
  rw [h2, Int.fdiv_eq_ediv_of_nonneg _ (Int.natCast_nonneg _)]
  exact (Int.natCast_ediv _ _).symm

theorem k138 {E w : World} {L : List Chunk} {s : SV} {l : List UInt8} (hS : Sep E w L) (hr : RdB L s l) (hb : l.length ≤ 1099511627776) {n k : Nat} (hk : k ≤ 8) (hk0 : 0 < k) :
    Calls Pr 138 #[.slice s.a s.len s.cap, .int .u64 ((n : Nat) : Int), .int .i64 ((k : Nat) : Int)] w fun e w' => ∃ (s' : SV) (C : List Chunk), e = .returned (.slice s'.a s'.len s'.cap) ∧ Own 5 1 s' ((l ++ bigE n k).map byteV) C ∧ Sep E w' (C ++ L) := by
  refine call138 ?_
  unfold ir138
  refine (k88 hS hr hb).mono ?_
  rintro _ w1 ⟨s1, C, rfl, ho, hS1⟩
  refine ⟨s1, rfl, brc_false (decide_eq_false (by omega)) (brc_false (decide_eq_false (by omega)) ?_)⟩
  refine ⟨fun r σ w2 => ∃ (m : Nat) (l' : List UInt8) (C : List Chunk), m ≤ k ∧ r = m ∧ l'.length ≤ l.length + 8 ∧ σ.1 = ((m : Nat) : Int) - 1 ∧ l' ++ bigE n m = l ++ bigE n k ∧ Own 5 1 σ.2.1 (l'.map byteV) C ∧ Sep E w2 (C ++ L), k, ⟨k, l, C, Nat.le_refl _, rfl, by omega, w64 (by omega) (by omega), rfl, ho, hS1⟩, ?_⟩
  rintro r ⟨i, s2, u⟩ w2 ⟨m, l', C, hm, hrm, hl', hi, he, ho, hS2⟩ _
  dsimp only at hi ho ⊢
  subst hi
  refine brc_intro (fun h => ?_) (fun h => ?_)
  · have h : 0 < m := by simp at h; omega
    obtain ⟨m, rfl⟩ : ∃ m', m = m' + 1 := ⟨m - 1, by omega⟩
    have e0 : (((m + 1 : Nat) : Int) - 1) = ((m : Nat) : Int) := by omega
    rw [e0]
    refine ⟨by rw [w64 (by omega) (by omega)]; omega, ?_⟩
    rw [shr8 n m _ (by show 8 * m ≤ 64; omega) (by omega), wu8]
    obtain ⟨s3, w3, C3, h3, ho3, hS3⟩ := hS2.litB (n := 1) (parts := [(0, .int .u8 ((n / 256 ^ m % 256 : Nat) : Int))]) (l := [UInt8.ofNat (n / 256 ^ m)]) rfl (by omega) (by
      simp only [List.map_cons, List.map_nil, byteV_ofNat]
      kernel_rfl)
    refine ⟨s3, w3, h3, ?_⟩
    have hS3' : Sep E w3 (C ++ (C3 ++ L)) := hS3.weak (by intro f; simp only [ms_append, ms_cons, ms_nil]; omega)
    have hlen : (l' ++ bigE n (m + 1)).length = (l ++ bigE n k).length := by rw [he]
    simp only [List.length_append, bigE_len] at hlen
    obtain ⟨s4, w4, C4, h4, ho4, hS4⟩ := hS3'.appB (ty := 26) ho ((ho3.rdl L).right C) (by simp; omega)
    refine ⟨s4, w4, h4, m, by omega, m, _, C4, by omega, rfl, ?_, ?_, ?_, ho4, hS4.weak (by intro f; simp only [ms_append, ms_cons, ms_nil]; omega)⟩
    · simp; omega
    · show IntKind.wrap .i64 (((m : Nat) : Int) - 1) = _
      rw [w64 (by omega) (by omega)]
    · rw [← he]
      simp [bigE]
  · have h : m = 0 := by simp at h; omega
    subst h
    have he : l' = l ++ bigE n k := by simpa [bigE] using he
    subst he
    exact ⟨s2, C, rfl, ho, hS2⟩

/-! ### Frames -/
def le4 (n : Nat) : List UInt8 := leL n 4
def sealL (x : List UInt8) : List UInt8 := x ++ le4 (crcSum x)
def frameL (x : List UInt8) : List UInt8 := sealL (bigE x.length 4 ++ x)
theorem sealL_len (x : List UInt8) : (sealL x).length = x.length + 4 := by simp [sealL, le4, leL_len]
theorem frameL_len (x : List UInt8) : (frameL x).length = x.length + 8 := by simp [frameL, sealL_len, bigE_len]; omega

theorem Sep.copyB {E w : World} {F : List Chunk} {g n c : Nat} {cur : Array Value} {x : SV} {m : List UInt8} (hS : Sep E w ((g, .cells cur 5 (0, 0)) :: F)) (hx : RdB F x m) (hm : m.length ≤ n) (hn : n ≤ cur.size) {ty : Nat} :
    ∃ w', Sem.run Pr (Builtin.copy_ #[26, 26] ty #[.slice (some ⟨g, 0, none⟩) n c, .slice x.a x.len x.cap]) w = .ok (.int .i64 ((m.length : Nat) : Int)) w' ∧ Sep E w' ((g, .cells (m.map byteV ++ cur.toList.drop m.length).toArray 5 (0, 0)) :: F) := by
  have hsz := hx.size
  have hu : Pr.underlying 26 = some (.slice 5) := tiB.und
  have h1 : (Pr.info? 5).map (·.size) = some 1 := by kernel_rfl
  cases hxa : x.a with
  | none =>
    have h0 := hx.nil hxa
    have : m = [] := List.eq_nil_of_length_eq_zero (by omega)
    subst this
    refine ⟨w, ?_, by simpa using hS⟩
    exact run_copy_none w 26 26 ty 5 (some ⟨g, 0, none⟩) none n c x.len x.cap hu h1 (by rw [h0]; simp)
  | some a =>
    refine ⟨_, ?_, hS.setRow _⟩
    have hg := hS.at_ _ List.mem_cons_self
    have hsrc := hx.src (hS.weak (L' := F) (by intro f; simp only [ms_append, ms_cons, ms_nil]; omega)) fun c hc => hc
    have := run_copy_row (P := Pr) w 26 26 ty 5 g 0 n c a x.len x.cap cur 5 (m.map byteV) hu h1 hg (by rw [List.length_map, hsz]; exact (Nat.min_eq_left hm).symm) (hsrc.at_ a hxa) (by rw [List.length_map]; omega) (byteV_one m)
    simpa [goInt] using this

theorem spl_mid (A Z : List Value) (z v : Value) : spl (A ++ z :: Z) A.length [v] = A ++ v :: Z := by
  simp [spl]

theorem zerosL_u8 (n : Nat) : zerosL (.int .u8 0) (n * 1) = List.replicate n (.int .u8 0) := by
  apply List.ext_getElem
  · simp [zerosL]
  · intro i h1 h2
    simp [zerosL, Value.cells, Nat.mod_one]

/-- frame.Seal. -/
theorem k137 {E w : World} {L : List Chunk} {s : SV} {l : List UInt8} (hS : Sep E w L) (hr : RdB L s l) (hb : l.length ≤ 1000000000000) :
    Calls Pr 137 #[.slice s.a s.len s.cap] w fun e w' => ∃ (s' : SV) (C : List Chunk), e = .returned (.slice s'.a s'.len s'.cap) ∧ RdB C s' (sealL l) ∧ Sep E w' (C ++ L) := by
  refine call137 ?_
  unfold ir137
  have hsz := hr.size
  obtain ⟨g, w1, h1, hS1⟩ := hS.makeSlice tiB (n := l.length + 4) (by omega) (by omega)
  have hw : IntKind.wrap .i64 (((s.len : Nat) : Int) + 4) = ((l.length + 4 : Nat) : Int) := by rw [hsz, w64 (by omega) (by omega)]; omega
  rw [hw]
  refine ⟨⟨some ⟨g, 0, none⟩, l.length + 4, l.length + 4⟩, w1, h1, ?_⟩
  rw [zerosL_u8] at hS1
  obtain ⟨w2, h2, hS2⟩ := hS1.copyB (n := l.length + 4) (c := l.length + 4) (ty := 3) hr (by omega) (by simp)
  refine ⟨_, w2, h2, ?_⟩
  have hd : (List.replicate (l.length + 4) (Value.int .u8 0)).toArray.toList.drop l.length = List.replicate 4 (.int .u8 0) := by
    simp
  rw [hd] at hS2
  refine (k156 hS2 (hr.tail _) (by omega)).mono ?_
  rintro _ w3 ⟨rfl, C, hS3⟩
  refine ⟨_, rfl, ⟨by omega, by simp only [hsz]; omega⟩, ?_⟩
  refine ⟨fun r σ w4 => ∃ k : Nat, k ≤ 4 ∧ r = 4 - k ∧ σ = ((k : Int), ()) ∧ Sep E w4 ((g, .cells ((l ++ leL (crcSum l) k).map byteV ++ List.replicate (4 - k) (Value.int .u8 0)).toArray 5 (0, 0)) :: (C ++ L)), 4, ⟨0, by omega, rfl, rfl, ?_⟩, ?_⟩
  · have e0 : (l ++ leL (crcSum l) 0).map byteV ++ List.replicate (4 - 0) (Value.int .u8 0) = l.map byteV ++ List.replicate 4 (.int .u8 0) := by simp [leL]
    rw [e0]
    exact hS3.weak (by intro f; simp only [ms_append, ms_cons, ms_nil]; omega)
  rintro r σ w4 ⟨k, hk, rfl, rfl, hS4⟩ _
  dsimp only
  have e1 : l.length + 4 - Int.toNat ((s.len : Nat) : Int) = 4 := by rw [hsz]; simp
  rw [e1]
  refine brc_intro (fun h => ?_) (fun h => ?_)
  · have h : k < 4 := by simp at h; omega
    have e2 : IntKind.wrap .i64 (((s.len : Nat) : Int) + ((k : Nat) : Int)) = ((l.length + k : Nat) : Int) := by rw [hsz, w64 (by omega) (by omega)]; omega
    rw [e2, shr8 _ k _ (by show 8 * k ≤ 32; omega) (by omega), wu8]
    have hx : (l ++ leL (crcSum l) k).map byteV ++ List.replicate (4 - k) (Value.int .u8 0) = (l ++ leL (crcSum l) k).map byteV ++ (.int .u8 0) :: List.replicate (4 - (k + 1)) (.int .u8 0) := by
      rw [show 4 - k = (4 - (k + 1)) + 1 by omega]
      rfl
    rw [hx] at hS4
    have hlen : ((l ++ leL (crcSum l) k).map byteV).length = l.length + k := by simp [leL_len]
    obtain ⟨w5, h5, hS5⟩ := hS4.store (o := l.length + k) (n := 1) (v := .int .u8 ((crcSum l / 256 ^ k % 256 : Nat) : Int)) (t := 5) (by kernel_rfl) rfl (by rw [List.length_append, hlen]; simp) (by simp [Value.cells, Value.oneCell'])
    refine ⟨by rw [w64 (by omega) (by omega)]; omega, ⟨by omega, by omega⟩, w5, ?_, 4 - (k + 1), by omega, k + 1, by omega, rfl, ?_, ?_⟩
    · simp only [Int.toNat_natCast, Nat.mul_one, addr_add, Nat.zero_add]
      exact h5
    · rw [w64 (by omega) (by omega)]
      rfl
    · have hm := spl_mid ((l ++ leL (crcSum l) k).map byteV) (List.replicate (4 - (k + 1)) (.int .u8 0)) (.int .u8 0) (.int .u8 ((crcSum l / 256 ^ k % 256 : Nat) : Int))
      rw [hlen] at hm
      have hm' : spl ((l ++ leL (crcSum l) k).map byteV ++ (.int .u8 0) :: List.replicate (4 - (k + 1)) (.int .u8 0)) (l.length + k) (Value.int .u8 ((crcSum l / 256 ^ k % 256 : Nat) : Int)).cells.toList = (l ++ leL (crcSum l) (k + 1)).map byteV ++ List.replicate (4 - (k + 1)) (.int .u8 0) := by
        refine hm.trans ?_
        rw [leL_succ, ← List.append_assoc, List.map_append (l₁ := l ++ leL (crcSum l) k), List.map_cons, List.map_nil, byteV_ofNat]
        simp
      rw [hm'] at hS5
      exact hS5
  · have h : k = 4 := by simp at h; omega
    subst h
    refine ⟨⟨some ⟨g, 0, none⟩, l.length + 4, l.length + 4⟩, _ :: C, rfl, ?_, hS4⟩
    refine RdS.mono (I := [_]) (Own.rds (Own.new (T := 5) (g := g) (n := l.length + 4) (vs := (sealL l).map byteV) (by simp [sealL_len]) (by unfold maxLen; omega))) fun c hc => ?_
    rw [List.mem_singleton] at hc
    subst hc
    simp [sealL, le4]

theorem Sep.litBs {E w : World} {L : List Chunk} (hS : Sep E w L) {n : Nat} {parts : List (Nat × Value)} {ss : List SV} (hl : ss.length = n) (hn : n ≤ 1099511627776) (hv : bsV Pr 22 n parts = some (ss.map slV)) :
    ∃ (s : SV) (w' : World) (C : List Chunk), Sem.run Pr (Instr.buildSlice 22 n parts.toArray) w = .ok (.slice s.a s.len s.cap) w' ∧ Own 26 1 s (ss.map slV) C ∧ Sep E w' (C ++ L) := by
  obtain ⟨b, w1, h1, hS1⟩ := hS.buildSlice (t := 22) (T := 26) (by kernel_rfl) hv
  exact ⟨⟨some ⟨b, 0, none⟩, n, n⟩, w1, _, h1, Own.new (by simp [hl]) (by unfold maxLen; omega), hS1⟩

/-- Two slices of bytes, one behind the other. -/
theorem Sep.join {E w : World} {L : List Chunk} (hS : Sep E w L) {s t : SV} {l m : List UInt8} (hs : RdB L s l) (ht : RdB L t m) (hb : l.length + m.length ≤ 1099511627776) :
    ∃ (s1 : SV) (w1 : World), Sem.run Pr (Instr.buildSlice 22 2 #[(0, .slice s.a s.len s.cap), (1, .slice t.a t.len t.cap)]) w = .ok (.slice s1.a s1.len s1.cap) w1 ∧
      Calls Pr 94 #[.slice s1.a s1.len s1.cap] w1 fun e w' => ∃ (s' : SV) (C : List Chunk), e = .returned (.slice s'.a s'.len s'.cap) ∧ RdB C s' (l ++ m) ∧ Sep E w' (C ++ L) := by
  obtain ⟨s1, w1, C, h1, ho, hS1⟩ := hS.litBs (n := 2) (parts := [(0, .slice s.a s.len s.cap), (1, .slice t.a t.len t.cap)]) (ss := [s, t]) rfl (by omega) (by kernel_rfl)
  refine ⟨s1, w1, h1, (k94 (ls := [l, m]) hS1 (ho.rdl L) (((RdBs.nil L).cons ht).cons hs |>.mono fun c hc => List.mem_append_right _ hc) (by simp) (by simpa using hb)).mono ?_⟩
  rintro _ w2 ⟨s2, C2, rfl, ho2, hS2⟩
  refine ⟨s2, C2 ++ C, rfl, ?_, by rw [List.append_assoc]; exact hS2⟩
  have := ho2.rdl C
  simpa [RdB] using this

/-- frame.Put. -/
theorem k84 {E w : World} {L : List Chunk} {s x : SV} {l m : List UInt8} (hS : Sep E w L) (hs : RdB L s l) (hx : RdB L x m) (hb : l.length ≤ 1000000000) (hm : m.length ≤ 4096) :
    Calls Pr 84 #[.slice s.a s.len s.cap, .slice x.a x.len x.cap] w fun e w' => ∃ (s' : SV) (C : List Chunk), e = .returned (.tuple #[.slice s'.a s'.len s'.cap, .int .i64 0]) ∧ RdB C s' (l ++ frameL m) ∧ Sep E w' (C ++ L) := by
  refine call84 ?_
  unfold ir84
  have hsz := hx.size
  refine brc_false (decide_eq_false (by omega)) ?_
  have hw : IntKind.wrap .u64 ((x.len : Nat) : Int) = ((m.length : Nat) : Int) := by rw [hsz, IntKind.wrap_u64]; omega
  rw [hw]
  refine (k138 (s := SV.nil) (l := []) hS (RdS.none L 1) (by simp) (n := m.length) (k := 4) (by omega) (by omega)).mono ?_
  rintro _ w1 ⟨s1, C1, rfl, ho1, hS1⟩
  refine ⟨s1, rfl, ?_⟩
  obtain ⟨s2, w2, h2, hc2⟩ := hS1.join (ho1.rdl L) (hx.right C1) (by simp [bigE_len]; omega)
  refine ⟨s2, w2, h2, hc2.mono ?_⟩
  rintro _ w3 ⟨s3, C3, rfl, hr3, hS3⟩
  refine ⟨s3, rfl, (k137 hS3 (hr3.left _) (by simp [bigE_len]; omega)).mono ?_⟩
  rintro _ w4 ⟨s4, C4, rfl, hr4, hS4⟩
  refine ⟨s4, rfl, ?_⟩
  have hlen : (sealL ([] ++ bigE m.length 4 ++ m)).length = m.length + 8 := by simp [sealL_len, bigE_len]; omega
  obtain ⟨s5, w5, h5, hc5⟩ := hS4.join (((hs.right C1).right C3).right C4) (hr4.left _) (by rw [hlen]; omega)
  refine ⟨s5, w5, h5, hc5.mono ?_⟩
  rintro _ w6 ⟨s6, C6, rfl, hr6, hS6⟩
  refine ⟨s6, rfl, s6, C6 ++ (C4 ++ (C3 ++ C1)), rfl, ?_, ?_⟩
  · exact hr6.left _
  · simp only [List.append_assoc]
    exact hS6

end Go.Proofs.Ytonjaaljnjjjcaa
