/- Maps and iterators in a heap assertion; bytes and strings. Conditions: as each lemma says. -/
import Derived.Test.YtonjaaljnjjjcaaS2
set_option linter.unusedVariables false
set_option linter.unusedSimpArgs false
namespace Go.Proofs.Ytonjaaljnjjjcaa
open Go Go.RowKit

/-- An entry: its key, its value, when it was born. -/
structure Ent (K : Type) where
  k : K
  v : Value
  born : Nat

def Ent.me {K : Type} (kv : K → Value) (x : Ent K) : MapEntry := ⟨kv x.k, x.v, x.born⟩

section
variable {K : Type} [DecidableEq K]

/-- The first of a key, and where it stands. -/
def lookE (k : K) : List (Ent K) → Nat → Option (Nat × Value)
  | [], _ => none
  | x :: l, i => if x.k = k then some (i, x.v) else lookE k l (i + 1)

/-- A key's value. -/
def getE (k : K) : List (Ent K) → Option Value
  | [] => none
  | x :: l => if x.k = k then some x.v else getE k l

def setE (k : K) (v : Value) (c : Nat) : List (Ent K) → List (Ent K)
  | [] => [⟨k, v, c⟩]
  | x :: l => if x.k = k then ⟨k, v, x.born⟩ :: l else x :: setE k v c l

def delE (k : K) : List (Ent K) → List (Ent K)
  | [] => []
  | x :: l => if x.k = k then l else x :: delE k l

theorem lookE_get (k : K) : ∀ (l : List (Ent K)) (i : Nat), (lookE k l i).map (·.2) = getE k l
  | [], _ => rfl
  | x :: l, i => by
    unfold lookE getE
    split
    · rfl
    · exact lookE_get k l (i + 1)

theorem lookE_shift (k : K) : ∀ (l : List (Ent K)) (i : Nat), lookE k l (i + 1) = (lookE k l i).map fun x => (x.1 + 1, x.2)
  | [], _ => rfl
  | x :: l, i => by
    unfold lookE
    split
    · rfl
    · exact lookE_shift k l (i + 1)

/-- How keys are told apart in w: the first of a key is found. -/
def KeyOk (P : Program) (kt : TypeId) (kv : K → Value) (w : World) (l : List (Ent K)) (k : K) : Prop :=
  (Instr.findKey kt (kv k) (l.map (Ent.me kv))).run P w = .ok (lookE k l 0) w ∧ (∀ e, (Instr.checkKey e 10000 kt (kv k)).run P w = .ok () w) ∧ Instr.sameBits 10000 (kv k) (kv k) = true

theorem modify_set {kv : K → Value} {k : K} {v : Value} {c : Nat} : ∀ (l : List (Ent K)) (i : Nat) (u : Value), lookE k l 0 = some (i, u) →
    (((l.map (Ent.me kv)).toArray).modify i fun e => { e with key := kv k, val := v }) = ((setE k v c l).map (Ent.me kv)).toArray
  | [], _, _, h => by simp [lookE] at h
  | x :: l, i, u, h => by
    unfold lookE at h
    unfold setE
    split at h
    · rename_i hx
      simp only [Option.some.injEq, Prod.mk.injEq] at h
      obtain ⟨rfl, _⟩ := h
      rw [if_pos hx]
      apply Array.ext'
      simp [Ent.me]
    · rename_i hx
      rw [if_neg hx, lookE_shift] at *
      obtain ⟨⟨j, u'⟩, hj, he⟩ := Option.map_eq_some_iff.1 h
      simp only [Prod.mk.injEq] at he
      obtain ⟨rfl, rfl⟩ := he
      have := modify_set (kv := kv) (v := v) (c := c) l j u' hj
      have h2 := congrArg Array.toList this
      apply Array.ext'
      simp at h2 ⊢
      exact h2

theorem key_at {kv : K → Value} {k : K} : ∀ (l : List (Ent K)) (i : Nat) (u : Value), lookE k l 0 = some (i, u) → (((l.map (Ent.me kv)).toArray[i]?).map (·.key)).getD (kv k) = kv k
  | [], _, _, h => by simp [lookE] at h
  | x :: l, i, u, h => by
    unfold lookE at h
    split at h
    · rename_i hx
      simp only [Option.some.injEq, Prod.mk.injEq] at h
      obtain ⟨rfl, _⟩ := h
      simp [Ent.me, hx]
    · rename_i hx
      rw [lookE_shift] at h
      obtain ⟨⟨j, u'⟩, hj, he⟩ := Option.map_eq_some_iff.1 h
      simp only [Prod.mk.injEq] at he
      obtain ⟨rfl, rfl⟩ := he
      have := key_at (kv := kv) l j u' hj
      simpa using this

theorem push_set {kv : K → Value} {k : K} {v : Value} {c : Nat} : ∀ (l : List (Ent K)), lookE k l 0 = none → ((l.map (Ent.me kv)).toArray.push { key := kv k, val := v, born := c }) = ((setE k v c l).map (Ent.me kv)).toArray
  | [], _ => rfl
  | x :: l, h => by
    unfold lookE at h
    unfold setE
    split at h
    · cases h
    · rename_i hx
      rw [if_neg hx]
      rw [lookE_shift] at h
      have := push_set (kv := kv) (v := v) (c := c) l (by simpa using h)
      have h2 := congrArg Array.toList this
      apply Array.ext'
      simp at h2 ⊢
      exact h2

theorem erase_del {kv : K → Value} {k : K} : ∀ (l : List (Ent K)) (i : Nat) (u : Value), lookE k l 0 = some (i, u) → ((l.map (Ent.me kv)).toArray.eraseIdxIfInBounds i) = ((delE k l).map (Ent.me kv)).toArray
  | [], _, _, h => by simp [lookE] at h
  | x :: l, i, u, h => by
    unfold lookE at h
    unfold delE
    split at h
    · rename_i hx
      simp only [Option.some.injEq, Prod.mk.injEq] at h
      obtain ⟨rfl, _⟩ := h
      rw [if_pos hx]
      apply Array.ext'
      simp
    · rename_i hx
      rw [if_neg hx]
      rw [lookE_shift] at h
      obtain ⟨⟨j, u'⟩, hj, he⟩ := Option.map_eq_some_iff.1 h
      simp only [Prod.mk.injEq] at he
      obtain ⟨rfl, rfl⟩ := he
      have := erase_del (kv := kv) l j u' hj
      have h2 := congrArg Array.toList this
      apply Array.ext'
      simp at h2 ⊢
      exact h2

theorem del_none {k : K} : ∀ (l : List (Ent K)), lookE k l 0 = none → delE k l = l
  | [], _ => rfl
  | x :: l, h => by
    unfold lookE at h
    unfold delE
    split at h
    · cases h
    · rename_i hx
      rw [if_neg hx]
      rw [lookE_shift] at h
      rw [del_none l (by simpa using h)]

/-- A map's block. -/
def mapC (kv : K → Value) (m : Nat) (l : List (Ent K)) (c : Nat) : Chunk := (m, .map (l.map (Ent.me kv)).toArray c)

variable {kv : K → Value} {E w : World} {L : List Chunk} {m c : Nat} {l : List (Ent K)} {mt kt et : TypeId} {k : K}

theorem run_getObj_map {es : Array MapEntry} (h : w.heap[m]? = some (.map es c)) : (getObj m).run Pr w = .ok (.map es c) w := by
  simp [getObj, Sem.run, h]

theorem Sep.lookup (hS : Sep E w L) (hm : mapC kv m l c ∈ L) (hu : Pr.underlying mt = some (.map kt et)) {z : Value} (hz : (Pr.info? et).bind (·.zero) = some z) (hk : KeyOk Pr kt kv w l k) :
    At Pr w (Instr.lookup mt (.map (some m)) (kv k) false) ((getE k l).getD z) := by
  have hb : w.heap[m]? = some (.map (l.map (Ent.me kv)).toArray c) := hS.at_ _ hm
  obtain ⟨h1, h2, _⟩ := hk
  have hzr : (zeroValue et).run Pr w = .ok z w := by
    cases hi : Pr.info? et with
    | none => simp [hi] at hz
    | some i =>
      have hz' : i.zero = some z := by simpa [hi] using hz
      simp [zeroValue, typeInfo, hi, hz']
  have hg := lookE_get k l 0
  unfold At Instr.lookup
  simp only [Sem.run_bind, run_underlying hu, Result.andThen_ok, run_getObj_map hb, Sem.run_pure, h2]
  have h1' : Sem.run Pr (Instr.findKey kt (kv k) (l.map (Ent.me kv)).toArray.toList) w = .ok (lookE k l 0) w := h1
  rw [h1']
  cases hl : lookE k l 0 with
  | none =>
    rw [hl] at hg
    have hg' : getE k l = none := by simpa using hg.symm
    simp [hzr, hg']
  | some x =>
    rw [hl] at hg
    have hg' : getE k l = some x.2 := by simpa using hg.symm
    simp [hg']

theorem Sep.lookup_ok (hS : Sep E w L) (hm : mapC kv m l c ∈ L) (hu : Pr.underlying mt = some (.map kt et)) {z : Value} (hz : (Pr.info? et).bind (·.zero) = some z) (hk : KeyOk Pr kt kv w l k) :
    At Pr w (Instr.lookup mt (.map (some m)) (kv k) true) (.tuple #[(getE k l).getD z, .bool (getE k l).isSome]) := by
  have hb : w.heap[m]? = some (.map (l.map (Ent.me kv)).toArray c) := hS.at_ _ hm
  obtain ⟨h1, h2, _⟩ := hk
  have hzr : (zeroValue et).run Pr w = .ok z w := by
    cases hi : Pr.info? et with
    | none => simp [hi] at hz
    | some i =>
      have hz' : i.zero = some z := by simpa [hi] using hz
      simp [zeroValue, typeInfo, hi, hz']
  have hg := lookE_get k l 0
  unfold At Instr.lookup
  simp only [Sem.run_bind, run_underlying hu, Result.andThen_ok, run_getObj_map hb, Sem.run_pure, h2]
  have h1' : Sem.run Pr (Instr.findKey kt (kv k) (l.map (Ent.me kv)).toArray.toList) w = .ok (lookE k l 0) w := h1
  rw [h1']
  cases hl : lookE k l 0 with
  | none =>
    rw [hl] at hg
    have hg' : getE k l = none := by simpa using hg.symm
    simp [hzr, hg']
  | some x =>
    rw [hl] at hg
    have hg' : getE k l = some x.2 := by simpa using hg.symm
    simp [hg']

theorem run_setObj_map {es : Array MapEntry} (h : w.heap[m]? = some (.map es c)) (o : Obj) : (setObj m o).run Pr w = .ok () { w with heap := w.heap.setIfInBounds m o } := by
  simp [setObj, Sem.run, h]

theorem Sep.setObj {o o' : Obj} (hS : Sep E w ((m, o) :: L)) : Sep E { w with heap := w.heap.setIfInBounds m o' } ((m, o') :: L) := by
  have hb := hS.at_ (m, o) List.mem_cons_self
  have hlt := (Array.getElem?_eq_some_iff.1 hb).1
  exact hS.turn rfl rfl rfl (by simp at hlt; simp [hlt]) (fun i hi => by simp [Array.getElem?_setIfInBounds_ne (Ne.symm hi)])

theorem Sep.mapUpdate (hS : Sep E w (mapC kv m l c :: L)) (hu : Pr.underlying mt = some (.map kt et)) (v : Value) (hk : KeyOk Pr kt kv w l k) :
    ∃ w', Sem.run Pr (Instr.mapUpdate mt (.map (some m)) (kv k) v) w = .ok () w' ∧ Sep E w' (mapC kv m (setE k v c l) (if (getE k l).isSome then c else c + 1) :: L) := by
  have hb : w.heap[m]? = some (.map (l.map (Ent.me kv)).toArray c) := hS.at_ _ List.mem_cons_self
  obtain ⟨h1, h2, h3⟩ := hk
  have hg := lookE_get k l 0
  have h1' : Sem.run Pr (Instr.findKey kt (kv k) (l.map (Ent.me kv)).toArray.toList) w = .ok (lookE k l 0) w := h1
  cases hl : lookE k l 0 with
  | none =>
    rw [hl] at hg
    have hg' : getE k l = none := by simpa using hg.symm
    refine ⟨_, ?_, by rw [hg']; exact hS.setObj⟩
    unfold Instr.mapUpdate
    simp only [Sem.run_bind, run_underlying hu, Result.andThen_ok, run_getObj_map hb, h2, h1', hl]
    rw [push_set l hl]
    exact run_setObj_map hb _
  | some x =>
    rw [hl] at hg
    have hg' : getE k l = some x.2 := by simpa using hg.symm
    obtain ⟨i, u⟩ := x
    refine ⟨_, ?_, by rw [hg']; exact hS.setObj⟩
    unfold Instr.mapUpdate
    simp only [Sem.run_bind, run_underlying hu, Result.andThen_ok, run_getObj_map hb, h2, h1', hl]
    have hst : Sem.run Pr (Instr.keyThatStays ((((l.map (Ent.me kv)).toArray[i]?).map (·.key)).getD (kv k)) (kv k)) w = .ok (kv k) w := by
      rw [key_at l i u hl]
      simp [Instr.keyThatStays, h3]
    simp only [hst, Result.andThen_ok]
    rw [modify_set (c := c) l i u hl]
    exact run_setObj_map hb _

theorem Sep.delete (hS : Sep E w (mapC kv m l c :: L)) (hu : Pr.underlying mt = some (.map kt et)) (hk : KeyOk Pr kt kv w l k) {kt' ty : TypeId} :
    ∃ w', Sem.run Pr (Builtin.delete_ #[mt, kt'] ty #[.map (some m), kv k]) w = .ok (.tuple #[]) w' ∧ Sep E w' (mapC kv m (delE k l) c :: L) := by
  have hb : w.heap[m]? = some (.map (l.map (Ent.me kv)).toArray c) := hS.at_ _ List.mem_cons_self
  obtain ⟨h1, h2, h3⟩ := hk
  have h1' : Sem.run Pr (Instr.findKey kt (kv k) (l.map (Ent.me kv)).toArray.toList) w = .ok (lookE k l 0) w := h1
  cases hl : lookE k l 0 with
  | none =>
    refine ⟨_, ?_, by rw [del_none l hl]; exact hS.setObj⟩
    have := run_setObj_map hb (.map (l.map (Ent.me kv)).toArray c)
    simp only [Builtin.delete_, List.getElem?_toArray, List.getElem?_cons_zero, List.getElem?_cons_succ, pure_bind, Sem.run_bind, run_underlying hu, Result.andThen_ok, run_getObj_map hb, h2, h1', hl, this, Sem.run_pure]
  | some x =>
    obtain ⟨i, u⟩ := x
    refine ⟨_, ?_, hS.setObj⟩
    have := run_setObj_map hb (.map ((delE k l).map (Ent.me kv)).toArray c)
    simp only [Builtin.delete_, List.getElem?_toArray, List.getElem?_cons_zero, List.getElem?_cons_succ, pure_bind, Sem.run_bind, run_underlying hu, Result.andThen_ok, run_getObj_map hb, h2, h1', hl, erase_del l i u hl, this, Sem.run_pure]

end

section
variable {K : Type} {kv : K → Value} {E w : World} {L : List Chunk} {m c : Nat} {l : List (Ent K)} {mt kt et : TypeId}

theorem Sep.makeMap (hS : Sep E w L) (mt : TypeId) : ∃ m w', Sem.run Pr (Instr.makeMap mt none) w = .ok (.map (some m)) w' ∧ Sep E w' (mapC kv m [] 0 :: L) := by
  refine ⟨w.heap.size, _, ?_, hS.push _⟩
  simp [Instr.makeMap]

theorem Sep.mapLen (hS : Sep E w L) (hm : mapC kv m l c ∈ L) (hu : Pr.underlying mt = some (.map kt et)) {ty : TypeId} : At Pr w (Builtin.len_ #[mt] ty #[.map (some m)]) (.int .i64 l.length) := by
  have hb : w.heap[m]? = some (.map (l.map (Ent.me kv)).toArray c) := hS.at_ _ hm
  unfold At
  simp only [Builtin.len_, List.getElem?_toArray, List.getElem?_cons_zero, pure_bind, Sem.run_bind, run_underlying hu, Result.andThen_ok, run_getObj_map hb, Sem.run_pure, goInt]
  simp

end
end Go.Proofs.Ytonjaaljnjjjcaa
