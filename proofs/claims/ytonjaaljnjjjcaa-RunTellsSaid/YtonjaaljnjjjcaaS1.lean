/- A heap assertion: blocks that are known whole, each once; and what operations do to it. Conditions: as each lemma says. -/
import Derived.Test.YtonjaaljnjjjcaaP0
set_option linter.unusedVariables false
set_option linter.unusedSimpArgs false
namespace Go.Proofs.Ytonjaaljnjjjcaa
open Go Go.RowKit

/-! ### Sums over lists: which list is part of which -/
def ms {α : Type} (f : α → Nat) : List α → Nat
  | [] => 0
  | x :: l => f x + ms f l

theorem ms_nil {α : Type} (f : α → Nat) : ms f [] = 0 := rfl
theorem ms_cons {α : Type} (f : α → Nat) (x : α) (l : List α) : ms f (x :: l) = f x + ms f l := rfl
theorem ms_append {α : Type} (f : α → Nat) (l l' : List α) : ms f (l ++ l') = ms f l + ms f l' := by
  induction l with
  | nil => simp [ms]
  | cons x l ih => simp [ms, ih]; omega
theorem ms_perm {α : Type} (f : α → Nat) {l l' : List α} (h : l.Perm l') : ms f l = ms f l' := by
  induction h with
  | nil => rfl
  | cons x _ ih => simp [ms, ih]
  | swap x y l => simp [ms]; omega
  | trans _ _ ih ih' => rw [ih, ih']

/-- Part of a list, counted. -/
def Part {α : Type} (l' l : List α) : Prop := ∀ f : α → Nat, ms f l' ≤ ms f l
theorem Part.refl {α : Type} (l : List α) : Part l l := fun _ => Nat.le_refl _
theorem Part.trans {α : Type} {a b c : List α} (h : Part a b) (h' : Part b c) : Part a c := fun f => Nat.le_trans (h f) (h' f)
theorem Part.of_perm {α : Type} {l l' : List α} (h : l'.Perm l) : Part l' l := fun f => Nat.le_of_eq (ms_perm f h)

open Classical in
theorem ms_pos {α : Type} {f : α → Nat} {l : List α} {x : α} (hx : x ∈ l) : f x ≤ ms f l := by
  induction l with
  | nil => cases hx
  | cons y l ih =>
    rcases List.mem_cons.1 hx with rfl | h
    · simp [ms]
    · have := ih h; simp [ms]; omega

theorem ms_zero {α : Type} {f : α → Nat} {l : List α} (h : ∀ x ∈ l, f x = 0) : ms f l = 0 := by
  induction l with
  | nil => rfl
  | cons y l ih => simp [ms, h y, ih fun x hx => h x (List.mem_cons_of_mem _ hx)]

open Classical in
theorem Part.mem {α : Type} {l' l : List α} (h : Part l' l) {x : α} (hx : x ∈ l') : x ∈ l := by
  refine Classical.byContradiction fun hn => ?_
  have h1 := h (fun y => if y = x then 1 else 0)
  have h2 : (1 : Nat) ≤ ms (fun y => if y = x then 1 else 0) l' := by
    have := ms_pos (f := fun y => if y = x then 1 else 0) hx
    simpa using this
  have h3 : ms (fun y => if y = x then 1 else 0) l = 0 := ms_zero fun y hy => if_neg fun (e : y = x) => hn (e ▸ hy)
  omega

abbrev Chunk := Nat × Obj

/-- Is it that block's? -/
def at1 (b : Nat) (c : Chunk) : Nat := if c.1 = b then 1 else 0

/-- In w the blocks of L are these, each stands once in L; the outside is E's. -/
structure Sep (E w : World) (L : List Chunk) : Prop where
  os : w.os = E.os
  tape : w.tape = E.tape
  output : w.output = E.output
  uniq : ∀ b, ms (at1 b) L ≤ 1
  at_ : ∀ c ∈ L, w.heap[c.1]? = some c.2

theorem Sep.weak {E w : World} {L L' : List Chunk} (h : Sep E w L) (hp : Part L' L) : Sep E w L' :=
  ⟨h.os, h.tape, h.output, fun b => Nat.le_trans (hp _) (h.uniq b), fun c hc => h.at_ c (hp.mem hc)⟩

theorem Sep.drew {E w : World} {L : List Chunk} (h : Sep E w L) : Sep E w.drew L := ⟨h.os, h.tape, h.output, h.uniq, h.at_⟩

theorem Sep.lt {E w : World} {L : List Chunk} (h : Sep E w L) {c : Chunk} (hc : c ∈ L) : c.1 < w.heap.size := by
  have := h.at_ c hc
  exact (Array.getElem?_eq_some_iff.1 this).1

theorem Sep.ne {E w : World} {L : List Chunk} {b b' : Nat} {o o' : Obj} (h : Sep E w ((b, o) :: L)) (hc : (b', o') ∈ L) : b' ≠ b := fun e => by
  subst e
  have h1 := h.uniq b'
  have h2 := ms_pos (f := at1 b') hc
  simp [ms, at1] at h1 h2
  omega

/-- A new block. -/
theorem Sep.push {E w : World} {L : List Chunk} (h : Sep E w L) (o : Obj) : Sep E { w with heap := w.heap.push o } ((w.heap.size, o) :: L) := by
  refine ⟨h.os, h.tape, h.output, fun b => ?_, fun c hc => ?_⟩
  · by_cases hb : w.heap.size = b
    · have : ms (at1 b) L = 0 := ms_zero fun c hc => by
        have := h.lt hc
        simp [at1]; omega
      simp [ms, at1, hb] at this ⊢
      omega
    · have := h.uniq b
      simp [ms, at1, hb] at this ⊢
      exact this
  · rcases List.mem_cons.1 hc with rfl | hc
    · simp
    · have h1 := h.at_ c hc
      have h2 := h.lt hc
      simp [Array.getElem?_push, Nat.ne_of_lt h2, h1]

/-- A block that turns. -/
theorem Sep.turn {E w w' : World} {L : List Chunk} {b : Nat} {o o' : Obj} (h : Sep E w ((b, o) :: L)) (hos : w'.os = w.os) (ht : w'.tape = w.tape) (hout : w'.output = w.output)
    (hb : w'.heap[b]? = some o') (hne : ∀ i, i ≠ b → w'.heap[i]? = w.heap[i]?) : Sep E w' ((b, o') :: L) := by
  refine ⟨hos.trans h.os, ht.trans h.tape, hout.trans h.output, fun x => ?_, fun c hc => ?_⟩
  · have := h.uniq x
    simpa [ms, at1] using this
  · rcases List.mem_cons.1 hc with rfl | hc
    · exact hb
    · rw [hne c.1 (h.ne (o' := c.2) hc)]
      exact h.at_ c (List.mem_cons_of_mem _ hc)

/-- A whole world. -/
def whole (w : World) : List Chunk := (List.range w.heap.size).map fun b => (b, w.heap.getD b default)

theorem Sep.all (w : World) : Sep w w (whole w) := by
  refine ⟨rfl, rfl, rfl, fun b => ?_, fun c hc => ?_⟩
  · unfold whole
    have key : ∀ n, ms (at1 b) ((List.range n).map fun b => (b, w.heap.getD b default)) ≤ if b < n then 1 else 0 := by
      intro n
      induction n with
      | zero => simp [ms]
      | succ n ih =>
        rw [List.range_succ, List.map_append, ms_append]
        simp only [List.map_cons, List.map_nil, ms, at1]
        split <;> split at ih <;> split <;> omega
    have := key w.heap.size
    split at this <;> omega
  · obtain ⟨b, hb, rfl⟩ := List.mem_map.1 hc
    have hb := List.mem_range.1 hb
    simp [hb]

/-- Out of what stands at a call's end: what was there has not turned. -/
theorem Sep.below {w w' : World} {L : List Chunk} (h : Sep w w' L) (hp : Part (whole w) L) : Below w.heap.size w w' := by
  have hat : ∀ i, i < w.heap.size → w'.heap[i]? = w.heap[i]? := fun i hi => by
    have hm : (i, w.heap.getD i default) ∈ whole w := List.mem_map.2 ⟨i, List.mem_range.2 hi, rfl⟩
    have := h.at_ _ (hp.mem hm)
    rw [this]
    simp [hi]
  refine ⟨h.os, h.tape, h.output, ?_, hat⟩
  rcases Nat.eq_zero_or_pos w.heap.size with h0 | h0
  · rw [h0]; exact Nat.zero_le _
  · have := hat (w.heap.size - 1) (by omega)
    have h1 : w.heap[w.heap.size - 1]? ≠ none := by simp; omega
    rw [← this] at h1
    have h2 : w.heap.size - 1 < w'.heap.size := by
      refine Classical.byContradiction fun hn => h1 ?_
      simp; omega
    omega

/-! ### Loads and stores -/
def oneT (P : Program) (t : TypeId) : Bool := match P.underlying t with
  | some (.struct _) | some (.array _ _) | none => false
  | some _ => true

theorem run_isAgg_one {P : Program} {t : TypeId} (h : oneT P t = true) (w : World) : (isAgg t).run P w = .ok false w := by
  unfold oneT at h
  cases hu : P.underlying t with
  | none => simp [hu] at h
  | some d => cases d <;> simp [hu] at h <;> simp [isAgg, run_underlying hu]

theorem cell_of {E w : World} {L : List Chunk} (h : Sep E w L) {b : Nat} {cs : Array Value} {T : TypeId} {fr : Nat × Nat} (hc : (b, Obj.cells cs T fr) ∈ L) {o : Nat} {v : Value} (hv : cs[o]? = some v) :
    w.cell? ⟨b, o, none⟩ = some v := by
  have := h.at_ _ hc
  simp only at this
  simp [World.cell?, this, hv]

theorem Sep.load {E w : World} {L : List Chunk} (h : Sep E w L) {b : Nat} {cs : Array Value} {T : TypeId} {fr : Nat × Nat} (hc : (b, Obj.cells cs T fr) ∈ L) {o : Nat} {v : Value} (hv : cs[o]? = some v)
    {t : TypeId} (ht : oneT Pr t = true) : At Pr w (loadVar t ⟨b, o, none⟩) v := by
  unfold At loadVar
  simp [run_isAgg_one ht, cell_of h hc hv]

end Go.Proofs.Ytonjaaljnjjjcaa
