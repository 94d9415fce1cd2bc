/- A call out of 'vc' of its body. Conditions: the program follows mixed orders; the checks on the code. -/
import Derived.Test.YtonjaaljnjjjcaaV5
set_option linter.unusedVariables false
set_option linter.unusedSimpArgs false
namespace Go.Proofs.Ytonjaaljnjjjcaa
open Go

def envL : List Value → Env
  | [], _ => undef
  | v :: _, 0 => v
  | _ :: l, i + 1 => envL l i

def resL (P : Program) (w : World) : List ResultVar → Env → (List Value → Prop) → Prop
  | [], _, K => K []
  | .tmp t :: rs, ρ, K => resL P w rs ρ fun vs => K (ρ t :: vs)
  | .cell a t :: rs, ρ, K => match ρ a with
    | .pointer (some p) => exTy P t fun v => At P w (loadVar t p) v ∧ resL P w rs ρ fun vs => K (v :: vs)
    | _ => False

def oneOf : List Value → Value
  | [] => .tuple #[]
  | [v] => v
  | vs => .tuple vs.toArray

def resOk (N : Nat) : List ResultVar → Bool
  | [] => true
  | .tmp t :: rs => Nat.blt t N && resOk N rs
  | .cell a _ :: rs => Nat.blt a N && resOk N rs

def resF (tmps : Array Value) : ResultVar → Sem Value
  | .tmp t => pure (tmps.getD t undef)
  | .cell x t => do loadVar t (← asAddr (tmps.getD x undef))

theorem resL_sound {P : Program} {N : Nat} {w : World} {a : Act} {ρ : Env} (hs : Shows N a ρ) : ∀ (rs : List ResultVar) (K : List Value → Prop), resOk N rs = true → resL P w rs ρ K →
    ∃ vs, (rs.mapM (resF a.tmps)).run P w = .ok vs w ∧ K vs
  | [], K, _, h => ⟨[], by simp, h⟩
  | .tmp t :: rs, K, hok, h => by
    simp only [resOk, Bool.and_eq_true] at hok
    obtain ⟨vs, hr, hk⟩ := resL_sound hs rs _ hok.2 h
    have ht := hs.get t (Nat.blt_eq ▸ hok.1 : t < N)
    have he : (resF a.tmps (.tmp t)).run P w = .ok (ρ t) w := by simp only [resF, Sem.run_pure, ht]
    exact ⟨_, by simp only [List.mapM_cons, Sem.run_bind, he, hr, Result.andThen_ok, Sem.run_pure], hk⟩
  | .cell x t :: rs, K, hok, h => by
    simp only [resOk, Bool.and_eq_true] at hok
    have ht := hs.get x (Nat.blt_eq ▸ hok.1 : x < N)
    simp only [resL] at h
    split at h
    · rename_i p hp
      obtain ⟨v, hv, h⟩ := exTy_ex h
      obtain ⟨vs, hr, hk⟩ := resL_sound hs rs _ hok.2 h
      have hv' : (loadVar t p).run P w = .ok v w := hv
      have he : (resF a.tmps (.cell x t)).run P w = .ok v w := by simp only [resF, ht, hp, asAddr, Sem.run_bind, Sem.run_pure, Result.andThen_ok, hv']
      exact ⟨_, by simp only [List.mapM_cons, Sem.run_bind, he, hr, Result.andThen_ok, Sem.run_pure], hk⟩
    · exact h.elim

theorem results_sound {P : Program} {N : Nat} {w : World} {a : Act} {ρ : Env} (hs : Shows N a ρ) {fn : Func} {K : Value → Prop} (hok : resOk N fn.results.toList = true) (h : resL P w fn.results.toList ρ fun vs => K (oneOf vs)) :
    ∃ v, (results fn a.tmps).run P w = .ok v w ∧ K v := by
  obtain ⟨vs, hr, hk⟩ := resL_sound hs _ _ hok h
  refine ⟨_, ?_, hk⟩
  have he : results fn a.tmps = (do
    let vs ← fn.results.mapM (resF a.tmps)
    pure (if h : vs.size = 1 then vs[0] else .tuple vs)) := rfl
  rw [he, Array.mapM_eq_mapM_toList]
  simp only [Sem.run_bind, Sem.run_map, hr, Result.andThen_ok, Sem.run_pure]
  congr 1
  match vs with
  | [] => rfl
  | [v] => rfl
  | v :: u :: l => simp [oneOf]

theorem envL_none : ∀ (l : List Value) (n : Nat), l.length ≤ n → envL l n = undef
  | [], n, _ => by cases n <;> rfl
  | _ :: l, 0, h => by simp at h
  | _ :: l, n + 1, h => envL_none l n (by simpa using h)

theorem shows_enter {args : List Value} {n : Nat} (hn : args.length ≤ n) :
    Shows n { tmps := args.toArray ++ Array.replicate (n - args.toArray.size) undef, defers := [] } (envL args) := by
  refine ⟨by simp; omega, fun i hi => ?_, by rw [envL_none _ _ hn]; rfl⟩
  have h1 : ∀ (l : List Value) (i : Nat), envL l i = l.getD i undef := by
    intro l
    induction l with
    | nil => intro i; rfl
    | cons v l ih =>
      intro i
      cases i with
      | zero => rfl
      | succ i => simp [envL, ih]
  rw [h1]
  simp only [Array.getD_eq_getD_getElem?, Array.getElem?_append, List.getD_eq_getElem?_getD]
  split
  · simp
  · rename_i hlt
    have : args.length ≤ i := by simpa using hlt
    rw [List.getElem?_eq_none this]
    simp [Array.getElem?_replicate]
    split <;> rfl

/-- The marks that a function leaves with: each block for deferred calls is empty, and is shut. -/
def endMark1 (v : Value) (w : World) (K : World → Prop) : Prop := match v with
  | .int _ n => w.heap[n.toNat]? = some (.deferred (some [])) ∧ K (w.putObj n.toNat (.deferred none))
  | _ => False
def endMarks : List Value → World → (World → Prop) → Prop
  | [], w, K => K w
  | v :: l, w, K => endMark1 v w fun w => endMarks l w K
def endV (v : Value) (w : World) (K : World → Prop) : Prop := match v with
  | .tuple vs => endMarks vs.toList w K
  | _ => K w

theorem leaves_of {P : Program} {fn : Func} {tmps : Array Value} {R : Ending → World → Prop} : ∀ (l : List Value) (w : World), endMarks l w (fun w => ∃ v, (results fn tmps).run P w = .ok v w ∧ R (.returned v) w) → LeavesInM (Fr none) 0 P fn tmps R (l.map markOf) .returning w
  | [], w, h => h
  | v :: l, w, h => by
    simp only [endMarks, endMark1] at h
    split at h
    · rename_i n
      exact ⟨by simp, .inl ⟨n.toNat, _, rfl, run_takeDeferred h.1, leaves_of l _ h.2⟩⟩
    · exact h.elim

theorem leaves_end {P : Program} {fn : Func} {tmps : Array Value} {R : Ending → World → Prop} {v : Value} {w : World} (h : endV v w (fun w => ∃ v, (results fn tmps).run P w = .ok v w ∧ R (.returned v) w)) : LeavesInM (Fr none) 0 P fn tmps R (dsOf v) .returning w := by
  cases v with
  | tuple vs => exact leaves_of _ _ h
  | _ => exact h

theorem endMarks_mono {K K' : World → Prop} (hm : ∀ w, K w → K' w) : ∀ (l : List Value) (w : World), endMarks l w K → endMarks l w K'
  | [], _, h => hm _ h
  | v :: l, w, h => by
    simp only [endMarks, endMark1] at *
    split at h
    · exact ⟨h.1, endMarks_mono hm _ _ h.2⟩
    · exact h.elim

theorem endV_mono {K K' : World → Prop} (hm : ∀ w, K w → K' w) {v : Value} {w : World} (h : endV v w K) : endV v w K' := by
  cases v with
  | tuple vs => exact endMarks_mono hm _ _ h
  | _ => exact hm _ h

/-- The contract of a function with ranges over functions, out of 'vc' of its body. -/
theorem calls_of_vcR {P : Program} {f : FuncId} {fn : Func} {c : Code} {args : List Value} {w : World} {R : Ending → World → Prop} {ann : Ann} {E : List (Nat × TypeId)} (hm : P.follows .mixedOrders = true)
    (hf : P.funcs[f]? = some fn) (hb : fn.body = some c)
    (hok : (codeOk fn.ntmps c && loopsOk fn.ntmps c && resOk fn.ntmps fn.results.toList && Nat.ble args.length fn.ntmps) = true)
    (h : vc P E fn.ntmps ann c ⟨fun ρ w => endV (ρ fn.ntmps) w fun w => resL P w fn.results.toList ρ fun vs => R (.returned (oneOf vs)) w, fun ρ w => endV (ρ fn.ntmps) w fun w => resL P w fn.results.toList ρ fun vs => R (.returned (oneOf vs)) w, fun _ _ _ => False⟩ (envL args) w) :
    Calls P f args.toArray w R := by
  simp only [Bool.and_eq_true] at hok
  obtain ⟨⟨⟨h1, h2⟩, h3⟩, h4⟩ := hok
  refine callsIn_wide.1 (callsIn_of_wp_marks (F := Fr none) (n := 0) hf hb trivial (wpIn_mono (vc_sound hm c none _ _ _ _ (.inl rfl) h1 h2 (shows_enter (Nat.le_of_ble_eq_true h4)) h) fun e a w h => ?_))
  have fin : ∀ ρ : Env, Shows fn.ntmps a ρ → (endV (ρ fn.ntmps) w fun w => resL P w fn.results.toList ρ fun vs => R (.returned (oneOf vs)) w) → LeavesInM (Fr none) 0 P fn a.tmps R a.defers .returning w := by
    intro ρ hs h
    rw [hs.defers]
    exact leaves_end (endV_mono (fun w h => results_sound (K := fun v => R (.returned v) w) hs h3 h) h)
  cases e with
  | normal => obtain ⟨ρ, hs, h⟩ := h; exact fin ρ hs h
  | ret => obtain ⟨ρ, hs, h⟩ := h; exact fin ρ hs h
  | exit i => obtain ⟨ρ, hs, h⟩ := h; exact h.elim
  | goto l => exact h.elim
  | panic c => exact h.elim
  | outgrown => exact h.elim

theorem writes_lt {N : Nat} : ∀ c : Code, codeOk N c = true → ∀ i ∈ writes c, i < N := by
  intro c
  induction c with
  | region id ops b =>
    intro h i hi
    obtain ⟨o, ho, hd⟩ := List.mem_filterMap.1 hi
    exact operOk_dst (List.all_eq_true.1 h o ho) i hd
  | seq a b iha ihb =>
    intro h i hi
    simp only [codeOk, Bool.and_eq_true] at h
    rcases List.mem_append.1 hi with hi | hi
    · exact iha h.1 i hi
    · exact ihb h.2 i hi
  | cond x a b iha ihb =>
    intro h i hi
    simp only [codeOk, Bool.and_eq_true] at h
    rcases List.mem_append.1 hi with hi | hi
    · exact iha h.1.2 i hi
    · exact ihb h.2 i hi
  | block id c ih => intro h i hi; exact ih h i hi
  | loop c ih => intro h i hi; exact ih h i hi
  | scope c ih => intro h i hi; exact ih h i hi
  | _ => intro _ i hi; simp [writes] at hi

/-- The contract of a function, out of 'vc' of its body. -/
theorem calls_of_vc {P : Program} {f : FuncId} {fn : Func} {c : Code} {args : List Value} {w : World} {R : Ending → World → Prop} {ann : Ann} {E : List (Nat × TypeId)} (hm : P.follows .mixedOrders = true)
    (hf : P.funcs[f]? = some fn) (hb : fn.body = some c)
    (hok : (codeOk fn.ntmps c && loopsOk fn.ntmps c && noRange c && resOk fn.ntmps fn.results.toList && Nat.ble args.length fn.ntmps) = true)
    (h : vc P E fn.ntmps ann c ⟨fun ρ w => resL P w fn.results.toList ρ fun vs => R (.returned (oneOf vs)) w, fun ρ w => resL P w fn.results.toList ρ fun vs => R (.returned (oneOf vs)) w, fun _ _ _ => False⟩ (envL args) w) :
    Calls P f args.toArray w R := by
  simp only [Bool.and_eq_true] at hok
  obtain ⟨⟨⟨⟨h1, h2⟩, hn⟩, h3⟩, h4⟩ := hok
  refine calls_of_vcR (ann := ann) (E := E) hm hf hb (by simp [h1, h2, h3, h4]) ?_
  have hN : ∀ ρ : Env, Agree (writes c) (envL args) ρ → ρ fn.ntmps = undef := fun ρ ha => by
    rw [ha fn.ntmps fun hi => Nat.lt_irrefl _ (writes_lt c h1 _ hi)]
    exact envL_none _ _ (Nat.le_of_ble_eq_true h4)
  refine vc_agree c (writes c) (envL args) ⟨fun ρ w => resL P w fn.results.toList ρ fun vs => R (.returned (oneOf vs)) w, fun ρ w => resL P w fn.results.toList ρ fun vs => R (.returned (oneOf vs)) w, fun _ _ _ => False⟩ _ _ w hn (fun _ h => h) (Agree.refl _ _) (fun ρ w ha h => ?_) (fun ρ w ha h => ?_) (fun _ _ _ _ h => h) h
  · show endV (ρ fn.ntmps) w _
    rw [hN ρ ha]; exact h
  · show endV (ρ fn.ntmps) w _
    rw [hN ρ ha]; exact h

end Go.Proofs.Ytonjaaljnjjjcaa
