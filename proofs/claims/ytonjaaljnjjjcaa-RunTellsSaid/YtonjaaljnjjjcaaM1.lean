/- A disk that may crash, in plain Lean. No program in sight. -/
import GoSem.Op.String
import Derived.Laws.Strings
set_option linter.unusedVariables false
set_option linter.unusedSimpArgs false
namespace Go.Proofs.Ytonjaaljnjjjcaa
open Go

/-! ### Names -/
def nlt (a b : ByteArray) : Prop := Op.bytesLess a.toList b.toList = true
instance (a b : ByteArray) : Decidable (nlt a b) := by unfold nlt; infer_instance
abbrev Names := List (ByteArray × Nat)

def findN (k : ByteArray) : Names → Option Nat
  | [] => none
  | x :: l => if x.1 = k then some x.2 else findN k l
def delN (k : ByteArray) : Names → Names
  | [] => []
  | x :: l => if x.1 = k then delN k l else x :: delN k l
/-- Put ahead of the first that is greater. -/
def insN (k : ByteArray) (f : Nat) : Names → Names
  | [] => [(k, f)]
  | x :: l => if nlt k x.1 then (k, f) :: x :: l else x :: insN k f l

structure MFile where
  bytes : List UInt8
  kept : Nat

structure MChange where
  gone : ByteArray
  new : ByteArray
  file : Nat

def noName : ByteArray := ByteArray.empty

def doN (nm : Names) (c : MChange) : Names := if c.new = noName then delN c.gone nm else insN c.new c.file (delN c.new (delN c.gone nm))

structure MDisk where
  files : List MFile
  now : Names
  kept : Names
  changes : List MChange
  room : Nat
  down : Bool
  doomed : Bool
  left : Nat

namespace MDisk

def new (room : Int) : MDisk := ⟨[], [], [], [], room.toNat, false, false, 0⟩

def ready (M : MDisk) : Int × MDisk :=
  if M.down then (40, M)
  else if M.doomed then (if M.left = 0 then (40, { M with down := true }) else (0, { M with left := M.left - 1 }))
  else (0, M)

def chg (M : MDisk) (c : MChange) : MDisk := { M with now := doN M.now c, changes := M.changes ++ [c] }

def right (n : ByteArray) : Bool := decide (1 ≤ n.size) && decide (n.size ≤ 32)

def create (M : MDisk) (n : ByteArray) : Int × MDisk :=
  if M.ready.1 ≠ 0 then M.ready
  else if right n = false then (1, M.ready.2)
  else if (findN n M.ready.2.now).isSome then (4, M.ready.2)
  else (0, ({ M.ready.2 with files := M.ready.2.files ++ [MFile.mk [] 0] } : MDisk).chg ⟨noName, n, M.ready.2.files.length⟩)

def holds (M : MDisk) (i : Nat) : Bool := M.kept.any (fun x => decide (x.2 = i)) || M.changes.any (fun c => decide (c.new ≠ noName) && decide (c.file = i))

/-- The bytes of those of the first files that are held. -/
def usedTo (M : MDisk) : Nat → List MFile → Nat
  | _, [] => 0
  | i, f :: fs => (if M.holds i then f.bytes.length else 0) + usedTo M (i + 1) fs
def used (M : MDisk) : Nat := M.usedTo 0 M.files

def find (M : MDisk) (n : ByteArray) : Int × Option Nat × MDisk :=
  if M.ready.1 ≠ 0 then (M.ready.1, none, M.ready.2)
  else match findN n M.ready.2.now with
    | none => (2, none, M.ready.2)
    | some i => (0, some i, M.ready.2)

def setFile (M : MDisk) (i : Nat) (g : MFile → MFile) : MDisk := { M with files := M.files.modify i g }
def fileAt (M : MDisk) (i : Nat) : MFile := M.files.getD i ⟨[], 0⟩

def append (M : MDisk) (n : ByteArray) (b : List UInt8) : Int × MDisk :=
  match M.find n with
  | (e, none, M') => (e, M')
  | (_, some i, M') => if M'.used + b.length > M'.room then (41, M') else (0, M'.setFile i fun f => ⟨f.bytes ++ b, f.kept⟩)

def read (M : MDisk) (n : ByteArray) : Int × List UInt8 × MDisk :=
  match M.find n with
  | (e, none, M') => (e, [], M')
  | (_, some i, M') => (0, (M'.fileAt i).bytes, M')

def sync (M : MDisk) (n : ByteArray) : Int × MDisk :=
  match M.find n with
  | (e, none, M') => (e, M')
  | (_, some i, M') => (0, M'.setFile i fun f => ⟨f.bytes, f.bytes.length⟩)

def rename (M : MDisk) (a b : ByteArray) : Int × MDisk :=
  match M.find a with
  | (e, none, M') => (e, M')
  | (_, some i, M') => if right b = false then (1, M') else (0, M'.chg ⟨a, b, i⟩)

def remove (M : MDisk) (n : ByteArray) : Int × MDisk :=
  match M.find n with
  | (e, none, M') => (e, M')
  | (_, some _, M') => (0, M'.chg ⟨n, noName, 0⟩)

def syncNames (M : MDisk) : Int × MDisk :=
  if M.ready.1 ≠ 0 then M.ready else (0, { M.ready.2 with kept := M.ready.2.now, changes := [] })

def names (M : MDisk) : Int × List ByteArray × MDisk :=
  if M.ready.1 ≠ 0 then (M.ready.1, [], M.ready.2) else (0, M.ready.2.now.map (·.1), M.ready.2)

def doom (M : MDisk) (n : Int) : Int × MDisk := if n < 0 then (1, M) else (0, { M with doomed := true, left := n.toNat })
def grow (M : MDisk) (n : Int) : Int × MDisk := if n < 0 then (1, M) else (0, { M with room := n.toNat })

/-- How many bytes are left, of those that are not kept. -/
def leftOf (ns : List Int) (i most : Nat) : Nat := match ns with
  | [] => 0
  | _ => min (max (ns.getD (i % ns.length) 0) 0).toNat most

def crashed (M : MDisk) (ns : List Int) : Nat → Names → List MFile
  | _, [] => []
  | i, x :: l => ⟨(M.fileAt x.2).bytes.take ((M.fileAt x.2).kept + leftOf ns i ((M.fileAt x.2).bytes.length - (M.fileAt x.2).kept)), (M.fileAt x.2).kept + leftOf ns i ((M.fileAt x.2).bytes.length - (M.fileAt x.2).kept)⟩ :: crashed M ns (i + 1) l
def numbered : Nat → Names → Names
  | _, [] => []
  | i, x :: l => (x.1, i) :: numbered (i + 1) l

def crash (M : MDisk) (names : Int) (ns : List Int) : MDisk :=
  let at_ := (M.changes.take names.toNat).foldl doN M.kept
  { files := M.crashed ns 0 at_, now := numbered 0 at_, kept := numbered 0 at_, changes := [], room := M.room, down := false, doomed := false, left := 0 }

end MDisk

/-! ### Names: laws -/
theorem nlt_irrefl (a : ByteArray) : ¬ nlt a a := by
  have h : ∀ l : List UInt8, Op.bytesLess l l = false := fun l => by
    induction l with
    | nil => rfl
    | cons x l ih => simp [Op.bytesLess, ih]
  simp [nlt, h]

theorem findN_del (k j : ByteArray) : ∀ l : Names, findN j (delN k l) = if j = k then none else findN j l
  | [] => by simp [delN, findN]
  | x :: l => by
    unfold delN
    by_cases hx : x.1 = k
    · rw [if_pos hx, findN_del k j l]
      by_cases hj : j = k
      · simp [hj]
      · have : ¬ x.1 = j := fun e => hj (e ▸ hx)
        simp [hj, findN, this]
    · rw [if_neg hx]
      unfold findN
      rw [findN_del k j l]
      by_cases hxj : x.1 = j
      · have : ¬ j = k := fun e => hx (hxj.trans e)
        simp [hxj, this]
      · simp [hxj]

theorem findN_ins (k : ByteArray) (f : Nat) (j : ByteArray) : ∀ l : Names, findN k l = none → findN j (insN k f l) = if j = k then some f else findN j l
  | [], _ => by
    simp only [insN, findN]
    by_cases h : j = k
    · simp [h]
    · have : ¬ k = j := fun e => h e.symm
      simp [h, this]
  | x :: l, h => by
    have hx : ¬ x.1 = k := fun e => by simp [findN, e] at h
    have hl : findN k l = none := by simpa [findN, hx] using h
    unfold insN
    split
    · by_cases hj : j = k
      · simp [findN, hj]
      · have : ¬ k = j := fun e => hj e.symm
        simp [findN, hj, this]
    · unfold findN
      rw [findN_ins k f j l hl]
      by_cases hxj : x.1 = j
      · have : ¬ j = k := fun e => hx (hxj.trans e)
        simp [hxj, this]
      · simp [hxj]

theorem findN_do (nm : Names) (c : MChange) (j : ByteArray) :
    findN j (doN nm c) = if c.new ≠ noName ∧ j = c.new then some c.file else if j = c.gone then none else findN j nm := by
  unfold doN
  by_cases h : c.new = noName
  · rw [if_pos h, findN_del]
    simp [h]
  · rw [if_neg h, findN_ins _ _ _ _ (by rw [findN_del]; simp), findN_del, findN_del]
    by_cases hj : j = c.new
    · simp [h, hj]
    · simp [hj]

theorem bl_trans : ∀ {a b c : List UInt8}, Op.bytesLess a b = true → Op.bytesLess b c = true → Op.bytesLess a c = true
  | _, [], _, h, _ => by simp [Op.bytesLess] at h
  | _, _ :: _, [], _, h => by simp [Op.bytesLess] at h
  | [], _ :: _, _ :: _, _, _ => rfl
  | x :: a, y :: b, z :: c, h1, h2 => by
    simp only [Op.bytesLess, Bool.or_eq_true, decide_eq_true_eq, Bool.and_eq_true, beq_iff_eq] at h1 h2 ⊢
    rcases h1 with h1 | ⟨rfl, h1⟩
    · rcases h2 with h2 | ⟨rfl, h2⟩
      · exact .inl (UInt8.lt_trans h1 h2)
      · exact .inl h1
    · rcases h2 with h2 | ⟨rfl, h2⟩
      · exact .inl h2
      · exact .inr ⟨rfl, bl_trans h1 h2⟩
theorem bl_total : ∀ {a b : List UInt8}, a ≠ b → Op.bytesLess a b = true ∨ Op.bytesLess b a = true
  | [], [], h => absurd rfl h
  | [], _ :: _, _ => .inl rfl
  | _ :: _, [], _ => .inr rfl
  | x :: a, y :: b, h => by
    simp only [Op.bytesLess, Bool.or_eq_true, decide_eq_true_eq, Bool.and_eq_true, beq_iff_eq]
    by_cases hxy : x = y
    · subst hxy
      have : a ≠ b := fun e => h (by rw [e])
      rcases bl_total this with h1 | h1
      · exact .inl (.inr ⟨rfl, h1⟩)
      · exact .inr (.inr ⟨rfl, h1⟩)
    · have h1 : x.toNat ≠ y.toNat := fun e => hxy (UInt8.toNat_inj.1 e)
      rcases Nat.lt_or_gt_of_ne h1 with h2 | h2
      · exact .inl (.inl (UInt8.lt_iff_toNat_lt.2 h2))
      · exact .inr (.inl (UInt8.lt_iff_toNat_lt.2 h2))

theorem ba_ext {a b : ByteArray} (h : a.toList = b.toList) : a = b := by
  rw [ByteArray.toList_eq, ByteArray.toList_eq] at h
  cases a; cases b
  rename_i x y
  congr 1
  exact Array.ext' h

theorem nlt_trans {a b c : ByteArray} (h : nlt a b) (h' : nlt b c) : nlt a c := bl_trans h h'
theorem nlt_total {a b : ByteArray} (h : a ≠ b) : nlt a b ∨ nlt b a := bl_total fun e => h (ba_ext e)
theorem nlt_ne {a b : ByteArray} (h : nlt a b) : a ≠ b := fun e => nlt_irrefl a (e ▸ h)

/-- Names rise. -/
def SortedN (nm : Names) : Prop := nm.Pairwise fun x y => nlt x.1 y.1

theorem delN_sub (k : ByteArray) : ∀ nm : Names, (delN k nm).Sublist nm
  | [] => List.Sublist.refl _
  | x :: nm => by
    unfold delN
    split
    · exact (delN_sub k nm).cons x
    · exact (delN_sub k nm).cons_cons x
theorem delN_sorted {nm : Names} (h : SortedN nm) (k : ByteArray) : SortedN (delN k nm) := List.Pairwise.sublist (delN_sub k nm) h
theorem delN_no (k : ByteArray) : ∀ nm : Names, ∀ x ∈ delN k nm, x.1 ≠ k
  | [] => by simp [delN]
  | x :: nm => by
    unfold delN
    split
    · exact delN_no k nm
    · rename_i h
      intro y hy
      rcases List.mem_cons.1 hy with rfl | hy
      · exact h
      · exact delN_no k nm y hy
theorem insN_mem (k : ByteArray) (f : Nat) : ∀ (nm : Names) (x : ByteArray × Nat), x ∈ insN k f nm ↔ x = (k, f) ∨ x ∈ nm
  | [], x => by simp [insN]
  | y :: nm, x => by
    unfold insN
    split
    · simp
    · rw [List.mem_cons, insN_mem k f nm x, List.mem_cons]
      constructor
      · rintro (h | h | h)
        · exact .inr (.inl h)
        · exact .inl h
        · exact .inr (.inr h)
      · rintro (h | h | h)
        · exact .inr (.inl h)
        · exact .inl h
        · exact .inr (.inr h)
theorem insN_sorted (k : ByteArray) (f : Nat) : ∀ {nm : Names}, SortedN nm → (∀ x ∈ nm, x.1 ≠ k) → SortedN (insN k f nm)
  | [], _, _ => List.pairwise_singleton _ _
  | y :: nm, h, hn => by
    have h := List.pairwise_cons.1 h
    unfold insN
    split
    · rename_i hk
      refine List.pairwise_cons.2 ⟨fun x hx => ?_, List.pairwise_cons.2 h⟩
      rcases List.mem_cons.1 hx with rfl | hx
      · exact hk
      · exact nlt_trans hk (h.1 x hx)
    · rename_i hk
      have hyk : nlt y.1 k := (nlt_total (hn y List.mem_cons_self)).resolve_right hk
      refine List.pairwise_cons.2 ⟨fun x hx => ?_, insN_sorted k f h.2 fun x hx => hn x (List.mem_cons_of_mem _ hx)⟩
      rcases (insN_mem k f nm x).1 hx with rfl | hx
      · exact hyk
      · exact h.1 x hx
theorem doN_sorted {nm : Names} (h : SortedN nm) (c : MChange) : SortedN (doN nm c) := by
  unfold doN
  split
  · exact delN_sorted h _
  · exact insN_sorted _ _ (delN_sorted (delN_sorted h _) _) (delN_no _ _)

theorem findN_mem {nm : Names} (h : SortedN nm) {x : ByteArray × Nat} (hx : x ∈ nm) : findN x.1 nm = some x.2 := by
  induction nm with
  | nil => cases hx
  | cons y nm ih =>
    have h := List.pairwise_cons.1 h
    unfold findN
    rcases List.mem_cons.1 hx with rfl | hx
    · simp
    · rw [if_neg (nlt_ne (h.1 x hx))]
      exact ih h.2 hx
theorem mem_of_findN {k : ByteArray} {i : Nat} : ∀ {nm : Names}, findN k nm = some i → (k, i) ∈ nm
  | [], h => by cases h
  | x :: nm, h => by
    unfold findN at h
    split at h
    · rename_i hx
      simp only [Option.some.injEq] at h
      rw [← hx, ← h]
      exact List.mem_cons_self
    · exact List.mem_cons_of_mem _ (mem_of_findN h)

end Go.Proofs.Ytonjaaljnjjjcaa
