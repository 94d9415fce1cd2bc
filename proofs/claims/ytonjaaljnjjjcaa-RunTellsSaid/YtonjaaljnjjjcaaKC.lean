/- Ranges over functions in a heap assertion. Conditions: as each lemma says. -/
import Derived.Test.YtonjaaljnjjjcaaS5
set_option linter.unusedVariables false
set_option linter.unusedSimpArgs false
namespace Go.Proofs.Ytonjaaljnjjjcaa
open Go Go.RowKit

def loopC (X : LB) (l D : Nat) (st : LoopState) (pe : Option Code) : Chunk := (l, X.loop D st pe)
def defC (D : Nat) : Chunk := (D, .deferred (some []))

theorem Sep.putObj {E w : World} {L : List Chunk} {m : Nat} {o o' : Obj} (hS : Sep E w ((m, o) :: L)) : Sep E (w.putObj m o') ((m, o') :: L) := hS.setObj

theorem Enters.sep {X : LB} {l D : Nat} {E w w1 : World} {L : List Chunk} (h : Enters X l D w w1) (hS : Sep E w L) : Sep E w1 (loopC X l D .ready none :: defC D :: L) := by
  obtain ⟨rfl, rfl, rfl⟩ := h
  have h1 := hS.push (.deferred (some []))
  have h2 := h1.push (X.loop w.heap.size .ready none)
  have e : w.heap.size + 1 = (w.heap.push (.deferred (some []))).size := by simp
  have h3 : Sep E { { w with heap := w.heap.push (.deferred (some [])) } with heap := (w.heap.push (.deferred (some []))).push (X.loop w.heap.size .ready none) } (((w.heap.push (.deferred (some []))).size, X.loop w.heap.size .ready none) :: (w.heap.size, .deferred (some [])) :: L) := h2
  rw [← e] at h3
  exact h3

theorem Sep.begin {E w : World} {L : List Chunk} {X : LB} {l D : Nat} (hS : Sep E w (loopC X l D .ready none :: L)) : ∃ w2, Sem.run Pr (Instr.beginRound l) w = .ok () w2 ∧ Sep E w2 (loopC X l D .busy none :: L) := by
  have hb : w.heap[l]? = some (X.loop D .ready none) := hS.at_ _ List.mem_cons_self
  refine ⟨_, run_beginRound (r := { state := .ready, pending := none, fn := X.fn, tmps := X.tmps, params := X.ps, assign := X.assign, body := X.body, defers := D }) hb rfl, ?_⟩
  exact Sep.putObj (o := X.loop D .ready none) hS

theorem yieldC_mono {l : Nat} {args : Array Value} {w : World} {R R' : Ending → World → Prop} (h : YieldC Pr l args w R) (hm : ∀ e w, R e w → R' e w) : YieldC Pr l args w R' := by
  obtain ⟨f, t, x, y, w', h1, h2⟩ := h
  exact ⟨f, t, x, y, w', h1, h2.mono hm⟩

/-- A round: yield is called. -/
theorem yieldS {E w : World} {F : List Chunk} {X : LB} {l D : Nat} {args : List Value} {Pn Pt : List Chunk → Prop} {R : Ending → World → Prop} (hS : Sep E w (loopC X l D .ready none :: F))
    (h : X.runs Pr l args w ⟨fun w => ∃ F', Pn F' ∧ Sep E w (loopC X l D .busy none :: F'), fun w => ∃ F', Pt F' ∧ Sep E w (loopC X l D .busy none :: F'), fun _ _ => False⟩)
    (hn : ∀ F' w, Pn F' → Sep E w (loopC X l D .ready none :: F') → R (.returned (.bool true)) w)
    (hr : ∀ F' w, Pt F' → Sep E w (loopC X l D .done (some .ret) :: F') → R (.returned (.bool false)) w) : YieldC Pr l args.toArray w R := by
  have hb : w.heap[l]? = some (X.loop D .ready none) := hS.at_ _ List.mem_cons_self
  obtain ⟨hlen, hw⟩ := h
  refine ⟨_, _, _, _, _, run_yield (r := { state := .ready, pending := none, fn := X.fn, tmps := X.tmps, params := X.ps, assign := X.assign, body := X.body, defers := D }) hb (by simpa using hlen), ?_⟩
  refine (roundIn_of_wpIn (F := Fr none) (n := 0) trivial (wpIn_mono hw ?_) : RoundIn (Fr none) 0 Pr l X.fn _ X.assign X.body w R)
  intro e a w1 hq
  cases e with
  | normal =>
    obtain ⟨w2, hbr, hb⟩ := hq
    refine ⟨w2, hbr, wpIn_mono hb ?_⟩
    intro e a w3 hq
    have fin : ∀ (F' : List Chunk) (j : Option Code), Sep E w3 (loopC X l D .busy none :: F') → ∃ w4, (Instr.endRound l j).run Pr w3 = .ok (.bool j.isNone) w4 ∧ Sep E w4 (loopC X l D (if j.isNone then .ready else .done) j :: F') := by
      intro F' j hS3
      have hb3 : w3.heap[l]? = some (X.loop D .busy none) := hS3.at_ _ List.mem_cons_self
      refine ⟨_, run_endRound (r := { state := .busy, pending := none, fn := X.fn, tmps := X.tmps, params := X.ps, assign := X.assign, body := X.body, defers := D }) j hb3, ?_⟩
      exact Sep.putObj (o := X.loop D .busy none) hS3
    cases e with
    | normal =>
      obtain ⟨F', hP, hS3⟩ := hq
      obtain ⟨w4, h4, hS4⟩ := fin F' none hS3
      exact ⟨_, w4, h4, hn F' w4 hP hS4⟩
    | ret =>
      obtain ⟨F', hP, hS3⟩ := hq
      obtain ⟨w4, h4, hS4⟩ := fin F' (some .ret) hS3
      exact ⟨_, w4, h4, hr F' w4 hP hS4⟩
    | exit i => exact hq.elim
    | goto t => exact (hq : False).elim
    | panic c => exact (hq : False).elim
    | outgrown => exact (hq : False).elim
  | exit i => exact (hq : False).elim
  | ret => exact (hq : False).elim
  | goto t => exact (hq : False).elim
  | panic c => exact (hq : False).elim
  | outgrown => exact (hq : False).elim

theorem leave_nrm {E w : World} {L : List Chunk} {X : LB} {l D : Nat} {Qn Qr : World → Prop} {Qx : Nat → World → Prop} (hS : Sep E w (loopC X l D .ready none :: L)) (h : ∀ w', Sep E w' (loopC X l D .exhausted none :: L) → Qn w') : leaveV Pr X l D Qn Qr Qx w :=
  ⟨.ready, none, hS.at_ _ List.mem_cons_self, by decide, h _ (Sep.putObj (o := X.loop D .ready none) hS)⟩
theorem leave_ret {E w : World} {L : List Chunk} {X : LB} {l D : Nat} {Qn Qr : World → Prop} {Qx : Nat → World → Prop} (hS : Sep E w (loopC X l D .done (some .ret) :: L)) (h : ∀ w', Sep E w' (loopC X l D .exhausted (some .ret) :: L) → Qr w') : leaveV Pr X l D Qn Qr Qx w :=
  ⟨.done, some .ret, hS.at_ _ List.mem_cons_self, by decide, h _ (Sep.putObj (o := X.loop D .done (some .ret)) hS)⟩

theorem shutS {E w : World} {L : List Chunk} {D : Nat} {K : World → Prop} (hS : Sep E w (defC D :: L)) (h : ∀ w', Sep E w' ((D, .deferred none) :: L) → K w') : shutV D w K :=
  ⟨hS.at_ _ List.mem_cons_self, h _ (Sep.putObj (o := .deferred (some [])) hS)⟩

theorem rangeS {E w : World} {L : List Chunk} {gf : Nat} {first lb : Array Value} {H : LB → Nat → Prop} {Qn Qr : Nat → World → Prop} {Qx : Nat → Nat → World → Prop} (hp : plainFunc Pr gf = true) (hS : Sep E w L)
    (h : ∀ (X : LB) (l D : Nat) (w1 : World), Sep E w1 (loopC X l D .ready none :: defC D :: L) → H X l → Calls Pr gf (first.toList ++ [Value.func (.yield l) #[] #[]] ++ lb.toList).toArray w1 fun e w3 => (∃ v, e = .returned v) ∧ leaveV Pr X l D (Qn D) (Qr D) (Qx D) w3) :
    rangeV Pr (.func (.func gf) first lb) w H Qn Qr Qx :=
  ⟨hp, fun X l D w1 he hH => h X l D w1 (he.sep hS) hH⟩

/-- What a caller of an iterator keeps: behind these that came, its blocks, what is read only. -/
structure YInv (α : Type) where
  on : List α → List Chunk → List Chunk → Prop
  off : List α → List Chunk → List Chunk → Prop
  mono : ∀ {pre U I I'}, (∀ c ∈ I, c ∈ I') → on pre U I → on pre U I'
  mono' : ∀ {pre U I I'}, (∀ c ∈ I, c ∈ I') → off pre U I → off pre U I'

/-- What a round does, of an iterator's caller. -/
def Yields1 {α : Type} (E : World) (l : Nat) (J : YInv α) (ok : List α → Prop) (enc : List Chunk → α → List Value → Prop) : Prop :=
  ∀ (pre : List α) (x : α) (U I R : List Chunk) (w : World) (vs : List Value), ok (pre ++ [x]) → J.on pre U I → enc I x vs → Sep E w (U ++ (I ++ R)) →
    YieldC Pr l vs.toArray w fun e w' => ∃ U', Sep E w' (U' ++ (I ++ R)) ∧ ((e = .returned (.bool true) ∧ J.on (pre ++ [x]) U' I) ∨ (e = .returned (.bool false) ∧ J.off (pre ++ [x]) U' I))

end Go.Proofs.Ytonjaaljnjjjcaa
