/- A call out of 'vc' of its body. Conditions: the program follows mixed orders; the checks on the code. -/
import Derived.Test.YtonjaaljnjjjcaaV5
namespace Go.Proofs.Ytonjaaljnjjjcaa
open Go

def envL : List Value → Env
  | [], _ => undef
  | v :: _, 0 => v
  | _ :: l, i + 1 => envL l i

def resL (P : Program) (w : World) : List ResultVar → Env → (List Value → Prop) → Prop
  | [], _, K => K []
  | .tmp t :: rs, ρ, K => resL P w rs ρ fun vs => K (ρ t :: vs)
  | .cell a t :: rs, ρ, K => match ρ a with
    | .pointer (some p) => exTy P t fun v => At P w (loadVar t p) v ∧ resL P w rs ρ fun vs => K (v :: vs)
    | _ => False

def oneOf : List Value → Value
  | [] => .tuple #[]
  | [v] => v
  | vs => .tuple vs.toArray

def resOk (N : Nat) : List ResultVar → Bool
  | [] => true
  | .tmp t :: rs => Nat.blt t N && resOk N rs
  | .cell a _ :: rs => Nat.blt a N && resOk N rs

def resF (tmps : Array Value) : ResultVar → Sem Value
  | .tmp t => pure (tmps.getD t undef)
  | .cell x t => do loadVar t (← asAddr (tmps.getD x undef))

theorem resL_sound {P : Program} {N : Nat} {w : World} {a : Act} {ρ : Env} (hs : Shows N a ρ) : ∀ (rs : List ResultVar) (K : List Value → Prop), resOk N rs = true → resL P w rs ρ K →
    ∃ vs, (rs.mapM (resF a.tmps)).run P w = .ok vs w ∧ K vs
  | [], K, _, h => ⟨[], by simp, h⟩
  | .tmp t :: rs, K, hok, h => by
    simp only [resOk, Bool.and_eq_true] at hok
    obtain ⟨vs, hr, hk⟩ := resL_sound hs rs _ hok.2 h
    have ht := hs.get t (Nat.blt_eq ▸ hok.1 : t < N)
    have he : (resF a.tmps (.tmp t)).run P w = .ok (ρ t) w := by simp only [resF, Sem.run_pure, ht]
    exact ⟨_, by simp only [List.mapM_cons, Sem.run_bind, he, hr, Result.andThen_ok, Sem.run_pure], hk⟩
  | .cell x t :: rs, K, hok, h => by
    simp only [resOk, Bool.and_eq_true] at hok
    have ht := hs.get x (Nat.blt_eq ▸ hok.1 : x < N)
    simp only [resL] at h
    split at h
    · rename_i p hp
      obtain ⟨v, hv, h⟩ := exTy_ex h
      obtain ⟨vs, hr, hk⟩ := resL_sound hs rs _ hok.2 h
      have hv' : (loadVar t p).run P w = .ok v w := hv
      have he : (resF a.tmps (.cell x t)).run P w = .ok v w := by simp only [resF, ht, hp, asAddr, Sem.run_bind, Sem.run_pure, Result.andThen_ok, hv']
      exact ⟨_, by simp only [List.mapM_cons, Sem.run_bind, he, hr, Result.andThen_ok, Sem.run_pure], hk⟩
    · exact h.elim

theorem results_sound {P : Program} {N : Nat} {w : World} {a : Act} {ρ : Env} (hs : Shows N a ρ) {fn : Func} {K : Value → Prop} (hok : resOk N fn.results.toList = true) (h : resL P w fn.results.toList ρ fun vs => K (oneOf vs)) :
    ∃ v, (results fn a.tmps).run P w = .ok v w ∧ K v := by
  obtain ⟨vs, hr, hk⟩ := resL_sound hs _ _ hok h
  refine ⟨_, ?_, hk⟩
  have he : results fn a.tmps = (do
    let vs ← fn.results.mapM (resF a.tmps)
    pure (if h : vs.size = 1 then vs[0] else .tuple vs)) := rfl
  rw [he, Array.mapM_eq_mapM_toList]
  simp only [Sem.run_bind, Sem.run_map, hr, Result.andThen_ok, Sem.run_pure]
  congr 1
  match vs with
  | [] => rfl
  | [v] => rfl
  | v :: u :: l => simp [oneOf]

theorem shows_enter {args : List Value} {n : Nat} (hn : args.length ≤ n) :
    Shows n { tmps := args.toArray ++ Array.replicate (n - args.toArray.size) undef, defers := [] } (envL args) := by
  refine ⟨by simp; omega, fun i hi => ?_, rfl⟩
  have h1 : ∀ (l : List Value) (i : Nat), envL l i = l.getD i undef := by
    intro l
    induction l with
    | nil => intro i; rfl
    | cons v l ih =>
      intro i
      cases i with
      | zero => rfl
      | succ i => simp [envL, ih]
  rw [h1]
  simp only [Array.getD_eq_getD_getElem?, Array.getElem?_append, List.getD_eq_getElem?_getD]
  split
  · simp
  · rename_i hlt
    have : args.length ≤ i := by simpa using hlt
    rw [List.getElem?_eq_none this]
    simp [Array.getElem?_replicate]
    split <;> rfl

/-- The contract of a function, out of 'vc' of its body. -/
theorem calls_of_vc {P : Program} {f : FuncId} {fn : Func} {c : Code} {args : List Value} {w : World} {R : Ending → World → Prop} {ann : Ann} {E : List (Nat × TypeId)} (hm : P.follows .mixedOrders = true)
    (hf : P.funcs[f]? = some fn) (hb : fn.body = some c)
    (hok : (codeOk fn.ntmps c && loopsOk c && resOk fn.ntmps fn.results.toList && Nat.ble args.length fn.ntmps) = true)
    (h : vc P E fn.ntmps ann c ⟨fun ρ w => resL P w fn.results.toList ρ fun vs => R (.returned (oneOf vs)) w, fun ρ w => resL P w fn.results.toList ρ fun vs => R (.returned (oneOf vs)) w, fun _ _ _ => False⟩ (envL args) w) :
    Calls P f args.toArray w R := by
  simp only [Bool.and_eq_true] at hok
  obtain ⟨⟨⟨h1, h2⟩, h3⟩, h4⟩ := hok
  refine calls_of_wp hf hb (wp_mono (vc_sound hm c _ _ _ _ h1 h2 (shows_enter (Nat.le_of_ble_eq_true h4)) h) fun e a w h => ?_)
  cases e with
  | normal =>
    obtain ⟨ρ, hs, h⟩ := h
    obtain ⟨v, hr, hk⟩ := results_sound (K := fun v => R (.returned v) w) hs h3 h
    exact ⟨hs.defers, v, hr, hk⟩
  | ret =>
    obtain ⟨ρ, hs, h⟩ := h
    obtain ⟨v, hr, hk⟩ := results_sound (K := fun v => R (.returned v) w) hs h3 h
    exact ⟨hs.defers, v, hr, hk⟩
  | exit i => obtain ⟨ρ, hs, h⟩ := h; exact h.elim
  | goto l => exact h.elim
  | panic c => exact h.elim
  | outgrown => exact h.elim

end Go.Proofs.Ytonjaaljnjjjcaa
