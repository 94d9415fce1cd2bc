/- Ranging over maps in a heap assertion. Conditions: as each lemma says. -/
import Derived.Test.YtonjaaljnjjjcaaS3
set_option linter.unusedVariables false
set_option linter.unusedSimpArgs false
namespace Go.Proofs.Ytonjaaljnjjjcaa
open Go Go.RowKit

section
variable {K : Type} {kv : K → Value}

theorem filter_left (seen : List Nat) : ∀ (l : List (Ent K)), ((l.map (Ent.me kv)).filter fun e => !seen.toArray.contains e.born) = (l.filter fun e => !seen.contains e.born).map (Ent.me kv)
  | [] => rfl
  | x :: l => by
    have h0 : seen.toArray.contains (Ent.me kv x).born = seen.contains x.born := by simp [Ent.me]
    rw [List.map_cons, List.filter_cons, List.filter_cons, h0, filter_left seen l]
    cases seen.contains x.born <;> rfl

theorem filter_old (c : Nat) : ∀ (l : List (Ent K)), (∀ e ∈ l, e.born < c) → ((l.map (Ent.me kv)).filter fun e => decide (e.born < c)) = l.map (Ent.me kv)
  | [], _ => rfl
  | x :: l, h => by
    have h0 : decide ((Ent.me kv x).born < c) = true := decide_eq_true (h x List.mem_cons_self)
    rw [List.map_cons, List.filter_cons, h0, filter_old c l fun e he => h e (List.mem_cons_of_mem _ he)]
    rfl

theorem filter_new (c : Nat) : ∀ (l : List (Ent K)), (∀ e ∈ l, e.born < c) → ((l.map (Ent.me kv)).filter fun e => decide (e.born ≥ c)) = []
  | [], _ => rfl
  | x :: l, h => by
    have h0 : decide ((Ent.me kv x).born ≥ c) = false := decide_eq_false (Nat.not_le.2 (h x List.mem_cons_self))
    rw [List.map_cons, List.filter_cons, h0, filter_new c l fun e he => h e (List.mem_cons_of_mem _ he)]
    rfl

theorem arr_filter {α : Type} (l : List α) (p : α → Bool) : l.toArray.filter p = (l.filter p).toArray := by
  apply Array.ext'
  simp

theorem find_born : ∀ (l : List (Ent K)) (e : Ent K), e ∈ l → (l.map (·.born)).Nodup → ((l.map (Ent.me kv)).find? fun x => x.born == e.born) = some (Ent.me kv e)
  | [], _, h, _ => by cases h
  | x :: l, e, h, hn => by
    rw [List.map_cons, List.nodup_cons] at hn
    rw [List.map_cons, List.find?_cons]
    rcases List.mem_cons.1 h with rfl | h
    · simp [Ent.me]
    · have hne : ((Ent.me kv x).born == e.born) = false := by
        simp only [Ent.me, beq_eq_false_iff_ne]
        intro he
        exact hn.1 (he ▸ List.mem_map.2 ⟨e, h, rfl⟩)
      rw [hne]
      exact find_born l e h hn.2

end

section
variable {K : Type}
variable {kv : K → Value} {E w : World} {L : List Chunk} {m c : Nat} {l : List (Ent K)} {mt kt et : TypeId} {k : K}

def iterC (it m since : Nat) (seen : List Nat) : Chunk := (it, .mapIter (some m) since seen.toArray since)

theorem Sep.range (hS : Sep E w L) (hm : mapC kv m l c ∈ L) (hu : Pr.underlying mt = some (.map kt et)) :
    ∃ it w', Sem.run Pr (Instr.range mt (.map (some m))) w = .ok (.pointer (some ⟨it, 0, none⟩)) w' ∧ Sep E w' (iterC it m c [] :: L) := by
  have hb : w.heap[m]? = some (.map (l.map (Ent.me kv)).toArray c) := hS.at_ _ hm
  refine ⟨w.heap.size, _, ?_, hS.push _⟩
  simp only [Instr.range, Sem.run_bind, run_underlying hu, Result.andThen_ok, run_getObj_map hb, Sem.run_pure, run_newObj]

/-- What a step of a range does, where nothing is stored between. -/
theorem run_next {it : Nat} {seen : List Nat} (hi : w.heap[it]? = some (.mapIter (some m) c seen.toArray c)) (hb : w.heap[m]? = some (.map (l.map (Ent.me kv)).toArray c)) (hborn : ∀ e ∈ l, e.born < c) (ty : TypeId) :
    ((∀ e ∈ l, e.born ∈ seen) ∧ (Instr.next (.pointer (some ⟨it, 0, none⟩)) false ty).run Pr w = .ok (.tuple #[.bool false]) w) ∨
    ∃ e ∈ l, e.born ∉ seen ∧ ∃ w1 : World, w1.heap = w.heap ∧ w1.os = w.os ∧ w1.tape = w.tape ∧ w1.output = w.output ∧
      (Instr.next (.pointer (some ⟨it, 0, none⟩)) false ty).run Pr w = .ok (.tuple #[.bool true, kv e.k, e.v]) { w1 with heap := w1.heap.setIfInBounds it (.mapIter (some m) c (seen.toArray.push e.born) c) } := by
  have hg : (Go.getObj it).run Pr w = .ok (.mapIter (some m) c seen.toArray c) w := by simp [Go.getObj, Sem.run, hi]
  have hcond : (!seen.toArray.isEmpty && !(l.map (Ent.me kv)).toArray.isEmpty && ((l.map (Ent.me kv)).toArray.all fun e => decide (e.born ≥ c))) = false := by
    cases l with
    | nil => simp
    | cons x l =>
      have h0 : decide ((Ent.me kv x).born ≥ c) = false := decide_eq_false (Nat.not_le.2 (hborn x List.mem_cons_self))
      have : ((x :: l).map (Ent.me kv)).toArray.all (fun e => decide (e.born ≥ c)) = false := by
        rw [← Array.all_toList]
        simp only [List.map_cons, List.all_cons, h0, Bool.false_and]
      rw [this]
      simp
  generalize hleft : (l.filter fun e => !seen.contains e.born) = left
  have hmem : ∀ e ∈ left, e ∈ l ∧ e.born ∉ seen := fun e he => by
    rw [← hleft] at he
    have := List.mem_filter.1 he
    refine ⟨this.1, ?_⟩
    intro h
    have h2 := this.2
    simp [h] at h2
  have hold : ∀ e ∈ left, e.born < c := fun e he => hborn e (hmem e he).1
  have hf1 : ((l.map (Ent.me kv)).toArray.filter fun e => !seen.toArray.contains e.born) = (left.map (Ent.me kv)).toArray := by
    rw [arr_filter, filter_left, hleft]
  have hf2 : ((left.map (Ent.me kv)).toArray.filter fun e => decide (e.born < c)) = (left.map (Ent.me kv)).toArray := by
    rw [arr_filter, filter_old c left hold]
  have hf3 : ((left.map (Ent.me kv)).toArray.filter fun e => decide (e.born ≥ c)) = #[] := by
    rw [arr_filter, filter_new c left hold]
  cases hl : left with
  | nil =>
    refine .inl ⟨fun e he => ?_, ?_⟩
    · refine Classical.byContradiction fun hn => ?_
      have : e ∈ left := by
        rw [← hleft]
        exact List.mem_filter.2 ⟨he, by simp [hn]⟩
      rw [hl] at this
      cases this
    · subst hl
      simp only [Instr.next, Sem.run_bind, hg, Result.andThen_ok, run_getObj_map hb, hcond, Bool.false_eq_true, if_false, hf1, hf2, hf3]
      simp [Question.forced]
  | cons x xs =>
    have hne : (left.map (Ent.me kv)).toArray.isEmpty = false := by rw [hl]; rfl
    generalize hn : (left.map (Ent.me kv)).length = n
    -- the index that is chosen, and the world behind it
    have hch : ∃ (j : Nat) (w1 : World), j < n ∧ (choose (.mapNext n)).run Pr w = .ok j w1 ∧ w1.heap = w.heap ∧ w1.os = w.os ∧ w1.tape = w.tape ∧ w1.output = w.output := by
      have hn0 : 0 < n := by rw [← hn, hl]; simp
      rw [run_choose]
      split
      · exact ⟨0, w, hn0, rfl, rfl, rfl, rfl, rfl⟩
      · exact ⟨_, _, Nat.mod_lt _ hn0, rfl, rfl, rfl, rfl, rfl⟩
    obtain ⟨j, w1, hj, hrun, h1, h2, h3, h4⟩ := hch
    have hjl : j < left.length := by rw [← hn] at hj; simpa using hj
    refine .inr ⟨left[j], (hmem _ (List.getElem_mem hjl)).1, (hmem _ (List.getElem_mem hjl)).2, w1, h1, h2, h3, h4, ?_⟩
    have hcand : ((if (left.map (Ent.me kv)).toArray.isEmpty then #[none] else #[]) ++ (((left.map (Ent.me kv)).toArray ++ #[]).map some) : Array (Option MapEntry)) = ((left.map (Ent.me kv)).map some).toArray := by
      rw [hne]
      apply Array.ext'
      simp
    have hi1 : w1.heap[it]? = some (.mapIter (some m) c seen.toArray c) := by rw [h1]; exact hi
    have hset : (Go.setObj it (.mapIter (some m) c (seen.toArray.push (Ent.me kv left[j]).born) c)).run Pr w1 = .ok () { w1 with heap := w1.heap.setIfInBounds it (.mapIter (some m) c (seen.toArray.push left[j].born) c) } := by
      simp [Go.setObj, Sem.run, hi1, Ent.me]
    have hsz : (((left.map (Ent.me kv)).map some).toArray).size = n := by simpa using hn
    have hat : (((left.map (Ent.me kv)).map some).toArray)[j]? = some (some (Ent.me kv left[j])) := by simp [hjl]
    simp only [Instr.next, Sem.run_bind, hg, Result.andThen_ok, run_getObj_map hb, hcond, Bool.false_eq_true, if_false, hf1, hf2, hf3, hcand, hsz, hrun, hat, hset, Sem.run_pure]
    rfl

theorem Sep.next {it : Nat} {seen : List Nat} (hS : Sep E w (iterC it m c seen :: L)) (hm : mapC kv m l c ∈ L) (hborn : ∀ e ∈ l, e.born < c) {ty : TypeId} {over : World → Prop} {entry : Value → Value → World → Prop}
    (ho : (∀ e ∈ l, e.born ∈ seen) → over w)
    (he : ∀ e ∈ l, e.born ∉ seen → ∀ w', Sep E w' (iterC it m c (seen ++ [e.born]) :: L) → entry (kv e.k) e.v w') : NextM Pr (.pointer (some ⟨it, 0, none⟩)) ty w over entry := by
  have hb : w.heap[m]? = some (.map (l.map (Ent.me kv)).toArray c) := hS.at_ _ (List.mem_cons_of_mem _ hm)
  have hi : w.heap[it]? = some (.mapIter (some m) c seen.toArray c) := hS.at_ _ List.mem_cons_self
  unfold NextM
  rcases run_next hi hb hborn ty with ⟨h1, h2⟩ | ⟨e, hel, hes, w1, h1, h2, h3, h4, h5⟩
  · rw [h2]
    exact ho h1
  · rw [h5]
    refine he e hel hes _ ?_
    have hS1 : Sep E w1 (iterC it m c seen :: L) := ⟨h2.trans hS.os, h3.trans hS.tape, h4.trans hS.output, hS.uniq, fun x hx => by rw [h1]; exact hS.at_ x hx⟩
    have := hS1.setObj (o' := .mapIter (some m) c (seen.toArray.push e.born) c)
    simpa [iterC] using this

theorem Sep.entry {it : Nat} {seen : List Nat} {e : Ent K} (hS : Sep E w L) (hi : iterC it m c (seen ++ [e.born]) ∈ L) (hm : mapC kv m l c ∈ L) (he : e ∈ l) (hn : (l.map (·.born)).Nodup) :
    At Pr w (Instr.entry (.pointer (some ⟨it, 0, none⟩))) (.tuple #[kv e.k, e.v]) := by
  have hb : w.heap[m]? = some (.map (l.map (Ent.me kv)).toArray c) := hS.at_ _ hm
  have hi : w.heap[it]? = some (.mapIter (some m) c (seen ++ [e.born]).toArray c) := hS.at_ _ hi
  have hg : (Go.getObj it).run Pr w = .ok (.mapIter (some m) c (seen ++ [e.born]).toArray c) w := by simp [Go.getObj, Sem.run, hi]
  have hback : ((seen ++ [e.born]).toArray).back? = some e.born := by simp
  have hf := find_born (kv := kv) l e he hn
  have hf' : ((l.map (Ent.me kv)).toArray.find? fun x => x.born == e.born) = some (Ent.me kv e) := by
    simpa using hf
  unfold At
  simp only [Instr.entry, Sem.run_bind, hg, Result.andThen_ok, hback, run_getObj_map hb, bne_self_eq_false, Bool.false_eq_true, if_false, hf', Sem.run_pure]
  rfl

end
end Go.Proofs.Ytonjaaljnjjjcaa
