/- 'vc' is sound: regions whose order is drawn, loops, and whole codes. Conditions: as in V2. -/
import Derived.Test.YtonjaaljnjjjcaaV3
import Derived.OrdersIn
set_option linter.unusedVariables false
set_option linter.unusedSimpArgs false
namespace Go.Proofs.Ytonjaaljnjjjcaa
open Go

theorem noSelect_of {N : Nat} {ops : List Oper} (hok : ops.all (operOk N) = true) : Region.noSelect ops.toArray = true := by
  unfold Region.noSelect
  rw [← Array.all_toList]
  refine List.all_eq_true.2 fun o ho => ?_
  have h := List.all_eq_true.1 hok o (by simpa using ho)
  simp only [operOk, Bool.and_eq_true] at h
  have h2 := h.2
  cases ho : o.op <;> simp [ho, notSelect] at h2 ⊢

theorem noDefer_of {N : Nat} {ops : List Oper} (hok : ops.all (operOk N) = true) : ∀ (j : Nat) (o : Oper) c, ops.toArray[j]? = some o → o.op ≠ .defer c := fun j o c ho =>
  operOk_defer (List.all_eq_true.1 hok o (List.mem_of_getElem? (by simpa using ho))) c

theorem guard_lt {N : Nat} {ops : List Oper} (hok : ops.all (operOk N) = true) : ∀ j d, guardDst ops j = some d → d < N := fun j d hj => by
  unfold guardDst at hj
  split at hj
  · rename_i o' ho
    exact operOk_dst (List.all_eq_true.1 hok o' (List.mem_of_getElem? ho)) d hj
  · cases hj

theorem YieldsIf_wpOpIn {P : Program} {r : Option Nat} {ops : Array Oper} {Q : Exit → Act → World → Prop} {S : World → Prop} {i : Nat} {o : Oper} {v : Value} {a : Act} (hi : ops[i]? = some o) (hd : ∀ c, o.op ≠ .defer c) (hy : YieldsIf P ops S o v a)
    {K : Act → World → Prop} {w : World} (hS : S w) (h : K (a.put o.dst v) w) : wpOpIn (Fr r) 0 P ops Q i K a w := by
  unfold wpOpIn
  simp only [hi]
  rcases hy with ⟨hw, hv⟩ | ⟨hw, rfl⟩
  · simp only [hw, if_true, Oper.wpIn, Oper.semAt_eq _ _ _ hd, hv w hS, Oper.uponIn]; exact ⟨fun _ _ => trivial, h⟩
  · simp only [hw, Bool.false_eq_true, if_false]; exact ⟨fun _ _ => trivial, h⟩

theorem wpOpIn_putIf {P : Program} {r : Option Nat} {ops : Array Oper} {Q : Exit → Act → World → Prop} {S : World → Prop} {j : Nat} {oi oj : Oper} {v : Value} (hj : ops[j]? = some oj) (hap : oi.apart ops oj = true)
    (hsi : ∀ cs b, oi.op ≠ .select cs b) (hsj : ∀ cs b, oj.op ≠ .select cs b) (hdj : ∀ c, oj.op ≠ .defer c)
    (hQ : ∀ c a w, Q (.panic c) (a.put oi.dst v) w → Q (.panic c) a w) {K : Act → World → Prop} {a : Act} {w : World}
    (hy : YieldsIf P ops S oi v a) (h : wpOpIn (Fr r) 0 P ops Q j K (a.put oi.dst v) w) :
    wpOpIn (Fr r) 0 P ops Q j (fun a' w' => YieldsIf P ops S oi v a' ∧ K (a'.put oi.dst v) w') a w := by
  obtain ⟨h1, h2, h3⟩ := Oper.apart_spec hap
  have keep : ∀ (a : Act), YieldsIf P ops S oi v a → ∀ u, YieldsIf P ops S oi v (a.put oj.dst u) := fun a hy u =>
    hy.of_same (execOp_put oi hsi a oj.dst u h3) (wanted_put oi a oj.dst u h3)
  have keepD : ∀ d, YieldsIf P ops S oi v { a with defers := d :: a.defers } := fun d => hy.of_same rfl rfl
  unfold wpOpIn at *
  simp only [hj] at *
  rw [wanted_put oj a oi.dst v h1] at h
  split
  · rename_i hw
    simp only [hw, if_true] at h
    unfold Oper.wpIn at *
    refine ⟨fun _ _ => trivial, ?_⟩
    have h := h.2
    rw [Oper.semAt_eq _ _ _ hdj, execOp_put oj hsj a oi.dst v h1] at h
    rw [Oper.semAt_eq _ _ _ hdj]
    generalize (execOp a.eval oj).run P w = r at *
    cases r with
    | ok x w' =>
      cases x <;> simp only [Oper.uponIn] at h ⊢
      case value u => exact ⟨keep a hy u, by rw [← Act.put_comm a v u h2]; exact h⟩
      case skip => exact ⟨keep a hy _, by rw [← Act.put_comm a v undef h2]; exact h⟩
      case defer d =>
        refine ⟨keep _ (keepD d) _, ?_⟩
        rw [← Act.put_comm _ v undef h2, ← Act.put_defers]
        exact h
      case enter f args =>
        refine ⟨h.1, CallsIn.mono h.2 fun e w'' he => ?_⟩
        cases e with
        | returned u => exact ⟨keep a hy u, by rw [← Act.put_comm a v u h2]; exact he⟩
        | panicked c => exact hQ _ _ _ he
        | outgrown => exact he
      case row row args => exact ⟨h.1, RowsIn.mono h.2 fun u w'' he => ⟨keep a hy u, by rw [← Act.put_comm a v u h2]; exact he⟩⟩
      case round l f tmps assign body =>
        refine ⟨h.1, RoundIn.mono h.2 fun e w'' he => ?_⟩
        cases e with
        | returned u => exact ⟨keep a hy u, by rw [← Act.put_comm a v u h2]; exact he⟩
        | panicked c => exact hQ _ _ _ he
        | outgrown => exact he
    | halt x w' =>
      cases x <;> simp only [Oper.uponIn] at h ⊢
      case panic u => exact hQ _ _ _ h
  · rename_i hw
    simp only [hw] at h
    exact ⟨fun _ _ => trivial, keep a hy _, by rw [← Act.put_comm a v undef h2]; exact h.2⟩

/-- Whatever order is picked from here on; the condition stands while those of 'held' may yet come. -/
def wpAnyD (P : Program) (r : Option Nat) (ops : List Oper) (Q : Exit → Act → World → Prop) : Nat → Array Bool → List Nat → (World → Prop) → Act → World → Prop
  | 0, listed, _, _, a, w => Region.ready .any ops.toArray listed = [] ∧ Q .normal a w
  | n + 1, listed, held, S, a, w => (Region.ready .any ops.toArray listed = [] → Q .normal a w) ∧
    ∀ i ∈ Region.ready .any ops.toArray listed, wpOpIn (Fr r) 0 P ops.toArray Q i (fun a' w' => ∃ S' : World → Prop, S' w' ∧
      ((cov ops i held = true ∧ wpAnyD P r ops Q n (listed.setIfInBounds i true) [] S' a' w') ∨ ((∀ w, S' w → S w) ∧ wpAnyD P r ops Q n (listed.setIfInBounds i true) held S' a' w'))) a w

theorem cov_sub {ops : List Oper} {j : Nat} : ∀ {l l' : List Nat}, (∀ x ∈ l', x ∈ l) → cov ops j l = true → cov ops j l' = true := by
  have key : ∀ l : List Nat, cov ops j l = true ↔ ∀ i ∈ l, ∃ o, ops[j]? = some o ∧ (o.after.toList.any fun e => Region.binds .any e && Nat.beq e.on i) = true := by
    intro l
    induction l with
    | nil => simp [cov]
    | cons i l ih =>
      unfold cov
      constructor
      · intro h x hx
        split at h
        · rename_i o ho
          split at h
          · rename_i ha
            rcases List.mem_cons.1 hx with rfl | hx
            · exact ⟨o, ho, ha⟩
            · exact ih.1 h x hx
          · cases h
        · cases h
      · intro h
        obtain ⟨o, ho, ha⟩ := h i List.mem_cons_self
        simp only [ho, ha]
        exact ih.2 fun x hx => h x (List.mem_cons_of_mem _ hx)
  intro l l' hs h
  exact (key l').2 fun i hi => (key l).1 h i (hs i hi)

theorem cov_cons {ops : List Oper} {i j : Nat} {l : List Nat} {o : Oper} (ho : ops[j]? = some o) (hn : ∀ e ∈ o.after, Region.binds .any e = true → e.on ≠ i) : cov ops j (i :: l) = false := by
  unfold cov
  simp only [ho]
  have : (o.after.toList.any fun e => Region.binds .any e && Nat.beq e.on i) = false := by
    rw [List.any_eq_false]
    intro e he
    simp only [Bool.and_eq_true, not_and, Bool.not_eq_true]
    intro hb
    have := hn e (by simpa using he) hb
    cases hbe : Nat.beq e.on i
    · rfl
    · exact absurd (Nat.eq_of_beq_eq_true hbe) this
  simp only [this]

section
variable {P : Program} {r : Option Nat} {ops : List Oper} {Q : Exit → Act → World → Prop}

theorem wpAny_of_D : ∀ (n : Nat) (listed : Array Bool) (held : List Nat) (S : World → Prop) (a : Act) (w : World), wpAnyD P r ops Q n listed held S a w → wpAnyIn (Fr r) 0 P .any ops.toArray Q n listed a w
  | 0, _, _, _, _, _, h => h
  | n + 1, _, _, _, _, _, h => ⟨h.1, fun i hi => wpOpIn_mono (fun a' w' ⟨S', _, h'⟩ => h'.elim (fun h => wpAny_of_D n _ _ S' a' w' h.2) (fun h => wpAny_of_D n _ _ S' a' w' h.2)) (h.2 i hi)⟩

theorem wpAnyD_sub : ∀ (n : Nat) (listed : Array Bool) (held held' : List Nat) (S : World → Prop) (a : Act) (w : World), (∀ x ∈ held', x ∈ held) → wpAnyD P r ops Q n listed held S a w → wpAnyD P r ops Q n listed held' S a w
  | 0, _, _, _, _, _, _, _, h => h
  | n + 1, _, held, held', _, _, _, hs, h => ⟨h.1, fun i hi => wpOpIn_mono (fun a' w' ⟨S', h0, h'⟩ => ⟨S', h0, h'.elim (fun h => .inl ⟨cov_sub hs h.1, h.2⟩) (fun h => .inr ⟨h.1, wpAnyD_sub n _ held held' _ _ _ hs h.2⟩)⟩) (h.2 i hi)⟩

theorem YieldsIf_mono {S S' : World → Prop} {o : Oper} {v : Value} {a : Act} (h : ∀ w, S' w → S w) (hy : YieldsIf P ops.toArray S o v a) : YieldsIf P ops.toArray S' o v a :=
  hy.imp (fun ⟨hw, hv⟩ => ⟨hw, fun w hw' => hv w (h w hw')⟩) id

/-- A reading that hangs on memory is taken first. -/
theorem wpAnyD_held {i : Nat} {oi : Oper} {v : Value} (hi : ops.toArray[i]? = some oi) (hsel : ∀ (j : Nat) (o : Oper) cs b, ops.toArray[j]? = some o → o.op ≠ .select cs b) (hdef : ∀ (j : Nat) (o : Oper) c, ops.toArray[j]? = some o → o.op ≠ .defer c)
    (hQ : ∀ c a w, Q (.panic c) (a.put oi.dst v) w → Q (.panic c) a w) :
    ∀ (fuel : Nat) (listed : Array Bool) (held : List Nat) (S : World → Prop) (a : Act) (w : World),
      (∀ j oj, ops.toArray[j]? = some oj → j ≠ i → listed.getD j true = false → (∀ e ∈ oj.after, Region.binds .any e = true → e.on ≠ i) → oi.apart ops.toArray oj = true) →
      i ∈ Region.ready .any ops.toArray listed → YieldsIf P ops.toArray S oi v a → S w →
      wpAnyD P r ops Q fuel (listed.setIfInBounds i true) (i :: held) S (a.put oi.dst v) w → wpAnyD P r ops Q (fuel + 1) listed held S a w := by
  intro fuel
  induction fuel with
  | zero =>
    intro listed held S a w _ hr hy hS H
    refine ⟨fun h => (by rw [h] at hr; cases hr), fun j hj => ?_⟩
    by_cases hji : j = i
    · subst hji; exact YieldsIf_wpOpIn hi (hdef _ _ · hi) hy hS ⟨S, hS, .inr ⟨fun _ h => h, wpAnyD_sub _ _ _ _ _ _ _ (fun x hx => List.mem_cons_of_mem _ hx) H⟩⟩
    · have := ready_mono hj hji
      rw [H.1] at this
      cases this
  | succ fuel ih =>
    intro listed held S a w hfree hr hy hS H
    refine ⟨fun h => (by rw [h] at hr; cases hr), fun j hj => ?_⟩
    by_cases hji : j = i
    · subst hji; exact YieldsIf_wpOpIn hi (hdef _ _ · hi) hy hS ⟨S, hS, .inr ⟨fun _ h => h, wpAnyD_sub _ _ _ _ _ _ _ (fun x hx => List.mem_cons_of_mem _ hx) H⟩⟩
    · have h1 := H.2 j (ready_mono hj hji)
      obtain ⟨hjun, oj, hoj, hall⟩ := mem_ready.1 hj
      have hnot : ∀ e ∈ oj.after, Region.binds .any e = true → e.on ≠ i := fun e he hb heq => by
        have h1 := hall e he hb
        have h0 := (mem_ready.1 hr).1
        rw [heq] at h1
        rcases Nat.lt_or_ge i listed.size with h' | h'
        · simp [h'] at h0 h1; rw [h0] at h1; cases h1
        · simp [Array.getElem?_eq_none h'] at h1
      have hc : cov ops j (i :: held) = false := cov_cons (by simpa using hoj) hnot
      have h2 := wpOpIn_putIf hoj (hfree j oj hoj hji hjun hnot) (fun cs b => hsel i oi cs b hi) (fun cs b => hsel j oj cs b hoj) (fun c => hdef j oj c hoj) hQ hy h1
      have hfree' : ∀ k ok, ops.toArray[k]? = some ok → k ≠ i → (listed.setIfInBounds j true).getD k true = false →
          (∀ e ∈ ok.after, Region.binds .any e = true → e.on ≠ i) → oi.apart ops.toArray ok = true := fun k ok hk hki hun hno => by
        refine hfree k ok hk hki ?_ hno
        by_cases hjk : j = k
        · subst hjk; exact hjun
        · rw [getD_set_ne true hjk] at hun; exact hun
      refine wpOpIn_mono (fun a' w' ⟨hya, S', hS', h3⟩ => ⟨S', hS', ?_⟩) h2
      rcases h3 with ⟨h3, _⟩ | ⟨hle, h3⟩
      · rw [hc] at h3; cases h3
      · refine .inr ⟨hle, ih (listed.setIfInBounds j true) held S' a' w' hfree' (ready_mono hr (Ne.symm hji)) (YieldsIf_mono hle hya) hS' ?_⟩
        rw [Array.setIfInBounds_comm _ _ hji]
        exact h3

/-- A reading that hangs on nothing is taken first. -/
theorem wpAnyD_pure {i : Nat} {oi : Oper} {v : Value} (hi : ops.toArray[i]? = some oi) (hsel : ∀ (j : Nat) (o : Oper) cs b, ops.toArray[j]? = some o → o.op ≠ .select cs b) (hdef : ∀ (j : Nat) (o : Oper) c, ops.toArray[j]? = some o → o.op ≠ .defer c)
    (hQ : ∀ c a w, Q (.panic c) (a.put oi.dst v) w → Q (.panic c) a w) :
    ∀ (fuel : Nat) (listed : Array Bool) (held : List Nat) (S : World → Prop) (a : Act) (w : World),
      (∀ j oj, ops.toArray[j]? = some oj → j ≠ i → listed.getD j true = false → (∀ e ∈ oj.after, Region.binds .any e = true → e.on ≠ i) → oi.apart ops.toArray oj = true) →
      i ∈ Region.ready .any ops.toArray listed → YieldsIf P ops.toArray (fun _ => True) oi v a → S w →
      wpAnyD P r ops Q fuel (listed.setIfInBounds i true) held S (a.put oi.dst v) w → wpAnyD P r ops Q (fuel + 1) listed held S a w := by
  intro fuel
  induction fuel with
  | zero =>
    intro listed held S a w _ hr hy hS H
    refine ⟨fun h => (by rw [h] at hr; cases hr), fun j hj => ?_⟩
    by_cases hji : j = i
    · subst hji; exact YieldsIf_wpOpIn hi (hdef _ _ · hi) hy trivial ⟨S, hS, .inr ⟨fun _ h => h, H⟩⟩
    · have := ready_mono hj hji
      rw [H.1] at this
      cases this
  | succ fuel ih =>
    intro listed held S a w hfree hr hy hS H
    refine ⟨fun h => (by rw [h] at hr; cases hr), fun j hj => ?_⟩
    by_cases hji : j = i
    · subst hji; exact YieldsIf_wpOpIn hi (hdef _ _ · hi) hy trivial ⟨S, hS, .inr ⟨fun _ h => h, H⟩⟩
    · have h1 := H.2 j (ready_mono hj hji)
      obtain ⟨hjun, oj, hoj, hall⟩ := mem_ready.1 hj
      have hnot : ∀ e ∈ oj.after, Region.binds .any e = true → e.on ≠ i := fun e he hb heq => by
        have h1 := hall e he hb
        have h0 := (mem_ready.1 hr).1
        rw [heq] at h1
        rcases Nat.lt_or_ge i listed.size with h' | h'
        · simp [h'] at h0 h1; rw [h0] at h1; cases h1
        · simp [Array.getElem?_eq_none h'] at h1
      have h2 := wpOpIn_putIf hoj (hfree j oj hoj hji hjun hnot) (fun cs b => hsel i oi cs b hi) (fun cs b => hsel j oj cs b hoj) (fun c => hdef j oj c hoj) hQ hy h1
      have hfree' : ∀ k ok, ops.toArray[k]? = some ok → k ≠ i → (listed.setIfInBounds j true).getD k true = false →
          (∀ e ∈ ok.after, Region.binds .any e = true → e.on ≠ i) → oi.apart ops.toArray ok = true := fun k ok hk hki hun hno => by
        refine hfree k ok hk hki ?_ hno
        by_cases hjk : j = k
        · subst hjk; exact hjun
        · rw [getD_set_ne true hjk] at hun; exact hun
      refine wpOpIn_mono (fun a' w' ⟨hya, S', hS', h3⟩ => ⟨S', hS', ?_⟩) h2
      rcases h3 with ⟨h3, h4⟩ | ⟨hle, h4⟩
      · refine .inl ⟨h3, ih (listed.setIfInBounds j true) [] S' a' w' hfree' (ready_mono hr (Ne.symm hji)) hya hS' ?_⟩
        rw [Array.setIfInBounds_comm _ _ hji]
        exact h4
      · refine .inr ⟨hle, ih (listed.setIfInBounds j true) held S' a' w' hfree' (ready_mono hr (Ne.symm hji)) hya hS' ?_⟩
        rw [Array.setIfInBounds_comm _ _ hji]
        exact h4

theorem wpAnyD_done {listed : Array Bool} {held : List Nat} {S : World → Prop} {a : Act} {w : World} (hr : Region.ready .any ops.toArray listed = []) (h : Q .normal a w) :
    ∀ fuel, wpAnyD P r ops Q fuel listed held S a w
  | 0 => ⟨hr, h⟩
  | _ + 1 => ⟨fun _ => h, by rw [hr]; simp⟩
end

theorem vcDraw_sound {P : Program} {r : Option Nat} {E : List (Nat × TypeId)} {N : Nat} {ops : List Oper} (hok : ops.all (operOk N) = true) {K : Env → World → Prop} {Q : Exit → Act → World → Prop}
    (hq : ∀ ρ w a, Shows N a ρ → K ρ w → Q .normal a w) (hp : ∀ c a w, ¬ Q (.panic c) a w) :
    ∀ (S : World → Prop) (held : List Nat) (n : Nat) (listed : Array Bool) (ρ : Env) (w : World) (a : Act), Shows N a ρ → S w → vcDraw P E ops S held n listed ρ w K → wpAnyD P r ops Q n listed held S a w
  | S, held, 0, listed, ρ, w, a, hs, _, h => by
    unfold vcDraw at h
    split at h
    · rename_i hr; exact ⟨hr, hq _ _ _ hs h⟩
    · exact h.elim
  | S, held, n + 1, listed, ρ, w, a, hs, hS, h => by
    unfold vcDraw at h
    split at h
    · rename_i hr; exact wpAnyD_done hr (hq _ _ _ hs h) _
    · rename_i hne
      split at h
      · rename_i i hi
        split at h
        · rename_i o ho hf hc
          have hoN : operOk N o = true := List.all_eq_true.1 hok o (List.mem_of_getElem? ho)
          have ho' : ops.toArray[i]? = some o := by simpa using ho
          obtain ⟨ρ', hs', _, hw⟩ := guardK_of hs (guard_lt hok) h
          rcases hw with ⟨hw, h⟩ | ⟨hw, h⟩
          · split at h
            · obtain ⟨v, hv, hk⟩ := rdOp_sound (AtS_good P S) h
              refine wpAnyD_held (v := v) ho' (Region.noSelect_spec (noSelect_of hok)) (noDefer_of hok) (fun c a w h => absurd h (hp c _ w)) n listed held S a w (Region.free_spec ho' hf) (by simpa using hc) (.inl ⟨hw, fun w hw => ?_⟩) hS ?_
              · rw [hs'.exec hoN]; exact hv w hw
              · exact vcDraw_sound hok hq hp S _ n _ _ w _ (hs'.put (operOk_dst hoN) v) hS hk
            · obtain ⟨v, hv, hk⟩ := rdOp_sound (AtS_good P fun _ => True) h
              refine wpAnyD_pure (v := v) ho' (Region.noSelect_spec (noSelect_of hok)) (noDefer_of hok) (fun c a w h => absurd h (hp c _ w)) n listed held S a w (Region.free_spec ho' hf) (by simpa using hc) (.inl ⟨hw, fun w hw => ?_⟩) hS ?_
              · rw [hs'.exec hoN]; exact hv w hw
              · exact vcDraw_sound hok hq hp S _ n _ _ w _ (hs'.put (operOk_dst hoN) v) hS hk
          · refine wpAnyD_pure (v := undef) ho' (Region.noSelect_spec (noSelect_of hok)) (noDefer_of hok) (fun c a w h => absurd h (hp c _ w)) n listed held S a w (Region.free_spec ho' hf) (by simpa using hc) (.inr ⟨hw, rfl⟩) hS ?_
            exact vcDraw_sound hok hq hp S _ n _ _ w _ (hs'.put (operOk_dst hoN) undef) hS h
        · exact h.elim
      · refine ⟨fun h0 => absurd h0 (fun e => hne e), fun i hi => ?_⟩
        have hx := conjL_all h i hi
        split at hx
        · rename_i o ho
          have hoN : operOk N o = true := List.all_eq_true.1 hok o (List.mem_of_getElem? ho)
          obtain ⟨ρ', hs', _, hw⟩ := guardK_of hs (guard_lt hok) hx
          unfold wpOpIn
          have ho' : ops.toArray[i]? = some o := by simpa using ho
          simp only [ho']
          rcases hw with ⟨hw, h⟩ | ⟨hw, h⟩
          · rw [if_pos hw]
            refine (Does_wp (operOk_defer hoN) (by rw [hs'.exec hoN]; exact efOp_sound h) fun v w' hk => ?_)
            cases hcv : cov ops i held with
            | true =>
              simp only [hcv] at hk
              obtain ⟨S', hS', hk⟩ := hk
              exact ⟨S', hS', .inl ⟨rfl, vcDraw_sound hok hq hp S' _ n _ _ w' _ (hs'.put (operOk_dst hoN) v) hS' hk⟩⟩
            | false =>
              simp only [hcv] at hk
              obtain ⟨S', hle, hS', hk⟩ := hk
              exact ⟨S', hS', .inr ⟨hle, vcDraw_sound hok hq hp S' _ n _ _ w' _ (hs'.put (operOk_dst hoN) v) hS' hk⟩⟩
          · rw [if_neg (by simp [hw])]
            exact ⟨fun _ _ => trivial, S, hS, .inr ⟨fun _ h => h, vcDraw_sound hok hq hp S _ n _ _ w _ (hs'.put (operOk_dst hoN) undef) hS h⟩⟩
        · exact hx.elim

/-! ### What a code does not write stays -/
theorem exLeaf_mono {d : TypeDesc} {K K' : Value → Prop} (hm : ∀ v, K v → K' v) (h : exLeaf d K) : exLeaf d K' := by
  unfold exLeaf at *
  cases d <;> (obtain ⟨b, h⟩ := h; exact ⟨b, hm _ h⟩)

mutual
theorem exCells_mono {P : Program} : ∀ (n : Nat) (t : TypeId) (K K' : List Value → Prop), (∀ l, K l → K' l) → exCells P n t K → exCells P n t K'
  | 0, _, _, _, _, h => by simp [exCells] at h
  | n + 1, t, K, K', hm, h => by
    unfold exCells at *
    split <;> simp_all only
    · exact exFields_mono n _ K K' hm h
    · obtain ⟨cs, h⟩ := h; exact ⟨cs, hm _ h⟩
    · exact exLeaf_mono (fun v hv => hm _ hv) h
theorem exFields_mono {P : Program} : ∀ (n : Nat) (fs : List Field) (K K' : List Value → Prop), (∀ l, K l → K' l) → exFields P n fs K → exFields P n fs K'
  | 0, _, _, _, _, h => by simp [exFields] at h
  | _ + 1, [], K, K', hm, h => by simp only [exFields] at *; exact hm _ h
  | n + 1, f :: fs, K, K', hm, h => by
    simp only [exFields] at *
    exact exCells_mono n f.type _ _ (fun a ha => exFields_mono n fs _ _ (fun b hb => hm _ hb) ha) h
end

theorem exTy_mono {P : Program} {t : TypeId} {K K' : Value → Prop} (hm : ∀ v, K v → K' v) (h : exTy P t K) : exTy P t K' := by
  unfold exTy at *
  split <;> simp_all only
  · exact exFields_mono _ _ _ _ (fun l hl => hm _ hl) h
  · obtain ⟨cs, h⟩ := h; exact ⟨cs, hm _ h⟩
  · exact exLeaf_mono hm h

theorem exTys_mono {P : Program} : ∀ (ts : List TypeId) (K K' : List Value → Prop), (∀ l, K l → K' l) → exTys P ts K → exTys P ts K'
  | [], _, _, hm, h => hm _ h
  | t :: ts, K, K', hm, h => by
    simp only [exTys] at *
    exact exTy_mono (fun v hv => exTys_mono ts _ _ (fun l hl => hm _ hl) hv) h

theorem exRes_mono {P : Program} {f : FuncId} {K K' : Value → Prop} (hm : ∀ v, K v → K' v) (h : exRes P f K) : exRes P f K' := by
  unfold exRes at *
  split <;> simp_all only
  split <;> simp_all only
  · exact exTy_mono hm h
  · exact exTys_mono _ _ _ (fun l hl => hm _ hl) h

theorem kEq_mono {k k' : IntKind} {A B : Prop} (hm : A → B) (h : kEq k k' A) : kEq k k' B := by
  unfold kEq at *
  split <;> simp_all

theorem brc_mono {t : Bool} {A B A' B' : Prop} (ha : A → A') (hb : B → B') (h : brc t A B) : brc t A' B' := by
  cases t
  · exact hb h
  · exact ha h

theorem optK_mono {α : Type} {p : Option α} {K K' : α → Prop} (hm : ∀ v, K v → K' v) (h : optK p K) : optK p K' := by
  cases p with
  | none => exact h
  | some a => exact hm _ h

theorem boundK_mono {x : Option Value} {d t : Nat} {K K' : Nat → Prop} (hm : ∀ v, K v → K' v) (h : boundK x d t K) : boundK x d t K' := by
  unfold boundK at *
  split <;> simp_all

theorem binV_mono {P : Program} {op : BinOp} {t : TypeId} {x y : Value} {E E' : Prop} {K K' : Value → Prop} (he : E → E') (hm : ∀ v, K v → K' v) (h : binV P op t x y E K) : binV P op t x y E' K' := by
  unfold binV at *
  split <;> simp only at h
  all_goals first
    | exact kEq_mono (hm _) h
    | exact ⟨h.1, hm _ h.2⟩
    | exact kEq_mono (fun h => ⟨h.1, hm _ h.2⟩) h
    | exact hm _ h
    | (split <;> simp_all)
    | exact he h

theorem minMaxV_mono {b : Bool} {l : List Value} {E E' : Prop} {K K' : Value → Prop} (he : E → E') (hm : ∀ v, K v → K' v) (h : minMaxV b l E K) : minMaxV b l E' K' := by
  unfold minMaxV at *
  split <;> simp only at h
  · exact kEq_mono (hm _) h
  · exact he (by simpa using h)

theorem rdOp_mono {P : Program} {E : List (Nat × TypeId)} {R : Rd} {ρ : Env} {op : Op} {ty : TypeId} {K K' : Value → Prop} (hm : ∀ v, K v → K' v) (h : rdOp P E R ρ op ty K) : rdOp P E R ρ op ty K' := by
  have fall : ∀ (t : TypeId) (m : Sem Value), (exTy P t fun v => R m v ∧ K v) → exTy P t fun v => R m v ∧ K' v := fun t m h => exTy_mono (fun v hv => ⟨hv.1, hm _ hv.2⟩) h
  cases op with
  | move x => exact hm _ h
  | assign x => exact hm _ h
  | pick c a b =>
    simp only [rdOp] at *
    split <;> simp_all only
    exact brc_mono (hm _) (hm _) h
  | load t x =>
    simp only [rdOp] at *
    split <;> simp_all only
  | nilCheck x =>
    simp only [rdOp] at *
    split <;> simp_all only
    exact optK_mono (fun a ha => hm _ ha) h
  | binOp o t x y yt => exact binV_mono (fun h => fall _ _ h) hm h
  | unOp o t x =>
    simp only [rdOp] at *
    split <;> simp_all only
  | fieldAddr s x f =>
    simp only [rdOp] at *
    split <;> simp_all only
  | indexAddr t x i =>
    simp only [rdOp] at *
    split <;> simp_all only
    · split <;> simp_all only
      exact ⟨⟨trivial, trivial⟩, optK_mono (fun a ha => hm _ ha) h.2⟩
    · split <;> simp_all only
      exact ⟨⟨trivial, trivial⟩, trivial⟩
  | extract x i =>
    simp only [rdOp] at *
    split <;> simp_all only
    split <;> simp_all only
  | makeFunc f a b => exact hm _ h
  | slice t x lo hi mx =>
    simp only [rdOp] at *
    split <;> simp_all only
    · split <;> simp_all only
      · exact boundK_mono (fun a ha => boundK_mono (fun b hb => hm _ hb) ha) h
      · split <;> simp_all only
        exact boundK_mono (fun a ha => boundK_mono (fun b hb => boundK_mono (fun c hc => hm _ hc) hb) ha) h
    · split <;> simp_all only
      exact boundK_mono (fun a ha => boundK_mono (fun b hb => hm _ hb) ha) h
  | convert s d x =>
    simp only [rdOp] at *
    split <;> simp_all only
  | lookup t x i ok =>
    simp only [rdOp] at *
    cases ok with
    | false => exact fall _ _ h
    | true => exact exTy_mono (fun v ⟨b, hr, hk⟩ => ⟨b, hr, hm _ hk⟩) h
  | entry x =>
    simp only [rdOp] at *
    split <;> simp_all only
    split <;> simp_all only
    split <;> simp_all only
    exact exTy_mono (fun u hu => exTy_mono (fun v hv => ⟨hv.1, hm _ hv.2⟩) hu) h
  | field t x f => exact fall _ _ h
  | index t x i => exact fall _ _ h
  | build t parts =>
    simp only [rdOp] at *
    cases hb : buildV P t (evp ρ parts) with
    | some cs => simp only [hb] at h ⊢; exact hm _ h
    | none => simp only [hb] at h ⊢; exact fall _ _ h
  | makeInterface t x => exact fall _ _ h
  | typeAssert x a b ok =>
    cases ok with
    | false => exact fall _ _ h
    | true => exact h
  | call c =>
    obtain ⟨callee, args, ats⟩ := c
    cases callee with
    | builtin b =>
      cases b with
      | len =>
        simp only [rdOp] at *
        split <;> simp_all only
        · split <;> simp_all only
        · split <;> simp_all only
      | cap => exact fall _ _ h
      | min => simp only [rdOp] at *; exact minMaxV_mono (fun h => fall _ _ h) hm h
      | max => simp only [rdOp] at *; exact minMaxV_mono (fun h => fall _ _ h) hm h
      | _ => exact h
    | _ => exact h
  | _ => exact h

theorem efOp_mono {P : Program} {ρ : Env} {op : Op} {ty : TypeId} {w : World} {K K' : Value → World → Prop} (hm : ∀ v w, K v w → K' v w) (h : efOp P ρ op ty w K) : efOp P ρ op ty w K' := by
  cases op with
  | alloc t => obtain ⟨a, w', hr, hk⟩ := h; exact ⟨a, w', hr, hm _ _ hk⟩
  | box t x => obtain ⟨a, w', hr, hk⟩ := h; exact ⟨a, w', hr, hm _ _ hk⟩
  | buildSlice t n parts => obtain ⟨a, w', hr, hk⟩ := h; exact ⟨a, w', hr, hm _ _ hk⟩
  | store t a x => obtain ⟨w', hr, hk⟩ := h; exact ⟨w', hr, hm _ _ hk⟩
  | mapUpdate t m k x => obtain ⟨w', hr, hk⟩ := h; exact ⟨w', hr, hm _ _ hk⟩
  | insert t m k x => obtain ⟨w', hr, hk⟩ := h; exact ⟨w', hr, hm _ _ hk⟩
  | makeMap t r => obtain ⟨a, w', hr, hk⟩ := h; exact ⟨a, w', hr, hm _ _ hk⟩
  | makeSlice t l c => obtain ⟨a, w', hr, hk⟩ := h; exact ⟨a, w', hr, hm _ _ hk⟩
  | convert s d x => obtain ⟨a, w', hr, hk⟩ := h; exact ⟨a, w', hr, hm _ _ hk⟩
  | range t x => obtain ⟨a, w', hr, hk⟩ := h; exact ⟨a, w', hr, hm _ _ hk⟩
  | next it s =>
    simp only [efOp] at *
    cases s with
    | true => exact h
    | false =>
      simp only [NextM] at *
      split <;> simp_all only
  | call c =>
    obtain ⟨callee, args, ats⟩ := c
    cases callee with
    | builtin b =>
      cases b with
      | append => obtain ⟨a, w', hr, hk⟩ := h; exact ⟨a, w', hr, hm _ _ hk⟩
      | copy => obtain ⟨a, w', hr, hk⟩ := h; exact ⟨a, w', hr, hm _ _ hk⟩
      | delete => obtain ⟨w', hr, hk⟩ := h; exact ⟨w', hr, hm _ _ hk⟩
      | _ => exact h
    | value f =>
      have hV : callV P (ev ρ f) (evs ρ args) w (fun e w' => exTy P ty fun v => e = .returned v ∧ K v w') → callV P (ev ρ f) (evs ρ args) w (fun e w' => exTy P ty fun v => e = .returned v ∧ K' v w') := by
        intro h
        unfold callV at *
        split <;> simp only [*] at h
        · exact ⟨h.1, h.2.mono fun e w' hk => exTy_mono (fun v hv => ⟨hv.1, hm _ _ hv.2⟩) hk⟩
        · obtain ⟨f', tmps, as, b, w', hr, h⟩ := h
          exact ⟨f', tmps, as, b, w', hr, h.mono fun e w' hk => exTy_mono (fun v hv => ⟨hv.1, hm _ _ hv.2⟩) hk⟩
      cases f with
      | func g =>
        simp only [efOp] at *
        split <;> simp_all only
        · exact h.mono fun e w' hk => exRes_mono (fun v hv => ⟨hv.1, hm _ _ hv.2⟩) hk
        · exact Does_mono hm h
      | tmp t => exact hV h
      | const v => exact hV h
      | global g => exact hV h
    | _ => exact h
  | _ => exact h

end Go.Proofs.Ytonjaaljnjjjcaa
