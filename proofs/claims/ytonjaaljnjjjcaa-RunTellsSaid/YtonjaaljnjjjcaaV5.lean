/- 'vc' is sound: loops and whole codes; a call out of its body. Conditions: as in V2. -/
import Derived.Test.YtonjaaljnjjjcaaV4
import Derived.Deep.LoopGhost
set_option linter.unusedVariables false
set_option linter.unusedSimpArgs false
namespace Go.Proofs.Ytonjaaljnjjjcaa
open Go

theorem vcOp_mono {P : Program} {E : List (Nat × TypeId)} {ρ : Env} {o : Oper} {w : World} {K K' : Value → World → Prop} (hm : ∀ v w, K v w → K' v w) (h : vcOp P E ρ o w K) : vcOp P E ρ o w K' := by
  unfold vcOp at *
  split <;> simp_all only
  · exact rdOp_mono (fun v hv => hm _ _ hv) h
  · exact efOp_mono hm h

/-- All but what is written is as it was. -/
def Agree (ws : List Nat) (ρ ρ' : Env) : Prop := ∀ i, i ∉ ws → ρ' i = ρ i

theorem Agree.refl (ws : List Nat) (ρ : Env) : Agree ws ρ ρ := fun _ _ => rfl
theorem Agree.trans {ws : List Nat} {a b c : Env} (h : Agree ws a b) (h' : Agree ws b c) : Agree ws a c := fun i hi => (h' i hi).trans (h i hi)
theorem Agree.mono {ws vs : List Nat} {a b : Env} (h : Agree ws a b) (hs : ∀ i, i ∈ ws → i ∈ vs) : Agree vs a b := fun i hi => h i fun h => hi (hs i h)
theorem Agree.put {ws : List Nat} {ρ ρ' : Env} {d : Option Nat} {v : Value} (hd : ∀ x, d = some x → x ∈ ws) (h : Agree ws (updO ρ d v) ρ') : Agree ws ρ ρ' := fun i hi => by
  rw [h i hi]
  cases d with
  | none => rfl
  | some d => exact upd_other fun e => hi (e ▸ hd d rfl)

theorem guardK_agree {ops : List Oper} {g : Option (Nat × Bool)} {ρ : Env} {yes no yes' no' : Env → Prop} (hy : ∀ ρ', (∀ i, ρ' i = ρ i) → yes ρ' → yes' ρ') (hn : ∀ ρ', (∀ i, ρ' i = ρ i) → no ρ' → no' ρ')
    (h : guardK ops g ρ yes no) : guardK ops g ρ yes' no' := by
  unfold guardK at *
  split <;> simp only at h
  · exact hy _ (fun _ => rfl) h
  · split <;> simp_all only
    rename_i d hd
    split
    case h_2 =>
      rename_i hnb
      refine hn _ (fun _ => rfl) ?_
      split at h
      · rename_i t ht; exact absurd ht (hnb t)
      · exact h
    rename_i t ht
    simp only [ht] at h
    have hsame : ∀ i, upd ρ d (.bool t) i = ρ i := fun i => by
      by_cases e : i = d
      · subst e; rw [upd_same, ht]
      · exact upd_other e
    split <;> simp_all only
    · cases t
      · exact hn _ hsame h
      · exact hy _ hsame h
    · cases t
      · exact hy _ hsame h
      · exact hn _ hsame h

theorem vcOps_agree {P : Program} {E : List (Nat × TypeId)} {ops : List Oper} {ws : List Nat} {ρ0 : Env} {K K' : Env → World → Prop} (hk : ∀ ρ w, Agree ws ρ0 ρ → K ρ w → K' ρ w) :
    ∀ (l : List Oper) (ρ : Env) (w : World), (∀ o ∈ l, ∀ x, o.dst = some x → x ∈ ws) → Agree ws ρ0 ρ → vcOps P E ops l ρ w K → vcOps P E ops l ρ w K'
  | [], _, _, _, ha, h => hk _ _ ha h
  | o :: rest, ρ, w, hl, ha, h => by
    simp only [vcOps] at *
    have hd := hl o List.mem_cons_self
    have hr : ∀ o ∈ rest, ∀ x, o.dst = some x → x ∈ ws := fun o ho => hl o (List.mem_cons_of_mem _ ho)
    have hput : ∀ (ρ' : Env) (v : Value), (∀ i, ρ' i = ρ i) → Agree ws ρ0 (updO ρ' o.dst v) := fun ρ' v hs =>
      ha.trans (fun i hi => by
        cases ho : o.dst with
        | none => exact hs i
        | some d => rw [updO, upd_other fun (e : i = d) => hi (by rw [e]; exact hd d ho)]; exact hs i)
    exact guardK_agree (fun ρ' hs h => vcOp_mono (fun v w' hv => vcOps_agree hk rest _ _ hr (hput ρ' v hs) hv) h) (fun ρ' hs h => vcOps_agree hk rest _ _ hr (hput ρ' undef hs) h) h

theorem conjL_mono {α : Type} {F G : α → Prop} : ∀ {l : List α}, (∀ x, F x → G x) → conjL F l → conjL G l
  | [], _, _ => trivial
  | [_], hm, h => hm _ h
  | _ :: y :: l, hm, h => ⟨hm _ h.1, conjL_mono (l := y :: l) hm h.2⟩

theorem vcDraw_agree {P : Program} {E : List (Nat × TypeId)} {ops : List Oper} {ws : List Nat} {ρ0 : Env} {K K' : Env → World → Prop} (hk : ∀ ρ w, Agree ws ρ0 ρ → K ρ w → K' ρ w) (hl : ∀ o ∈ ops, ∀ x, o.dst = some x → x ∈ ws) :
    ∀ (S : World → Prop) (held : List Nat) (n : Nat) (listed : Array Bool) (ρ : Env) (w : World), Agree ws ρ0 ρ → vcDraw P E ops S held n listed ρ w K → vcDraw P E ops S held n listed ρ w K'
  | S, held, 0, listed, ρ, w, ha, h => by
    unfold vcDraw at *
    split <;> simp_all only
  | S, held, n + 1, listed, ρ, w, ha, h => by
    have hput : ∀ (o : Oper) (ρ' : Env) (v : Value), o ∈ ops → (∀ i, ρ' i = ρ i) → Agree ws ρ0 (updO ρ' o.dst v) := fun o ρ' v ho hs =>
      ha.trans (fun i hi => by
        cases hd : o.dst with
        | none => exact hs i
        | some d => rw [updO, upd_other fun (e : i = d) => hi (by rw [e]; exact hl o ho d hd)]; exact hs i)
    unfold vcDraw at *
    generalize Region.ready .any ops.toArray listed = rs at h ⊢
    cases rs with
    | nil => exact hk _ _ ha h
    | cons x l =>
      dsimp only at h ⊢
      cases hf : firstRd P ops (x :: l) with
      | some i =>
        simp only [hf] at h ⊢
        cases ho : ops[i]? with
        | none => simp only [ho] at h
        | some o =>
          have hm := List.mem_of_getElem? ho
          cases hf1 : Region.free .any ops.toArray listed i with
          | false => simp only [ho, hf1] at h
          | true =>
            cases hf2 : (x :: l).contains i with
            | false => simp only [ho, hf1, hf2] at h
            | true =>
              simp only [ho, hf1, hf2] at h ⊢
              refine guardK_agree (fun ρ' hs h => ?_) (fun ρ' hs h => vcDraw_agree hk hl S held n _ _ _ (hput o ρ' undef hm hs) h) h
              cases hh : heldRd P o.op <;> simp only [hh] at h ⊢
              · exact rdOp_mono (fun v hv => vcDraw_agree hk hl S held n _ _ _ (hput o ρ' v hm hs) hv) h
              · exact rdOp_mono (fun v hv => vcDraw_agree hk hl S _ n _ _ _ (hput o ρ' v hm hs) hv) h
      | none =>
        simp only [hf] at h ⊢
        refine conjL_mono (fun i hi => ?_) h
        cases ho : ops[i]? with
        | none => simp only [ho] at hi
        | some o =>
          have hm := List.mem_of_getElem? ho
          simp only [ho] at hi ⊢
          refine guardK_agree (fun ρ' hs h => efOp_mono (fun v w' h => ?_) h) (fun ρ' hs h => vcDraw_agree hk hl S held n _ _ _ (hput o ρ' undef hm hs) h) hi
          cases hc : cov ops i held <;> simp only [hc] at h ⊢
          · obtain ⟨S', h1, h2, h3⟩ := h
            exact ⟨S', h1, h2, vcDraw_agree hk hl S' _ n _ _ _ (hput o ρ' v hm hs) h3⟩
          · obtain ⟨S', h2, h3⟩ := h
            exact ⟨S', h2, vcDraw_agree hk hl S' _ n _ _ _ (hput o ρ' v hm hs) h3⟩

def psOk (N : Nat) : List Nat → Bool
  | [] => true
  | p :: ps => Nat.blt p N && psOk N ps

def noRange : Code → Bool
  | .seq a b => noRange a && noRange b
  | .cond _ a b => noRange a && noRange b
  | .block _ c | .loop c | .scope c => noRange c
  | .rangeFunc .. => false
  | _ => true

theorem mem_writes_region {ops : Array Oper} {id : Nat} {b : Bool} : ∀ o ∈ ops.toList, ∀ x, o.dst = some x → x ∈ writes (.region id ops b) := fun o ho x hx =>
  List.mem_filterMap.2 ⟨o, ho, hx⟩

theorem memN_iff {l : List Nat} {i : Nat} : memN l i = true ↔ i ∈ l := by
  induction l with
  | nil => simp [memN]
  | cons x l ih =>
    unfold memN
    split
    · rename_i hb; simp [Nat.eq_of_beq_eq_true hb]
    · rename_i hb
      have hne : i ≠ x := fun e => by subst e; simp at hb
      simp [ih, hne]

theorem mix_agree (ws : List Nat) (g ρ : Env) : Agree ws ρ (mix ws g ρ) := fun i hi => by
  have : memN ws i = false := by
    cases h : memN ws i
    · rfl
    · exact absurd (memN_iff.1 h) hi
  simp [mix, this]

theorem getV_mono {k : Kd} {v : Value} {F G : k.T → Prop} (hm : ∀ x, F x → G x) (h : getV k v F) : getV k v G := by
  cases k <;> cases v <;> first
    | exact hm _ h
    | exact h
    | exact kEq_mono (hm _) h
    | exact optK_mono hm h

theorem getK_mono : ∀ {l : List (Nat × Kd)} {ρ : Env} {F G : Slots l → Prop}, (∀ s, F s → G s) → getK l ρ F → getK l ρ G
  | [], _, _, _, hm, h => hm _ h
  | _ :: l, _, _, _, hm, h => getV_mono (fun _ hx => getK_mono (l := l) (fun _ hs => hm _ hs) hx) h

theorem getV_of {k : Kd} {v : Value} {F : k.T → Prop} (h : getV k v F) : ∃ x, F x ∧ k.toV x = v := by
  cases k <;> cases v <;> first
    | (obtain ⟨rfl, h'⟩ := kEq_of h; exact ⟨_, h', rfl⟩)
    | (obtain ⟨x, rfl, h'⟩ := optK_of h; exact ⟨x, h', rfl⟩)
    | exact (h : False).elim
    | exact ⟨_, h, rfl⟩

theorem getK_of : ∀ {l : List (Nat × Kd)} {ρ : Env} {F : Slots l → Prop}, getK l ρ F → ∃ s, F s ∧ ∀ i, putK l s ρ i = ρ i
  | [], _, _, h => ⟨(), h, fun _ => rfl⟩
  | x :: l, ρ, F, h => by
    obtain ⟨v, h, hv⟩ := getV_of h
    obtain ⟨s, h, hs⟩ := getK_of h
    refine ⟨(v, s), h, fun i => ?_⟩
    simp only [putK]
    by_cases e : i = x.1
    · subst e; rw [upd_same, hv]
    · rw [upd_other e, hs i]

theorem LoopT_mono {σ : Type} {step step' : σ → World → (σ → World → Prop) → Prop} (hm : ∀ s w K, step s w K → step' s w K) {s : σ} {w : World} (h : LoopT step s w) : LoopT step' s w := by
  obtain ⟨I, n, hI, hst⟩ := h
  exact ⟨I, n, hI, fun n s w' h => hm _ _ _ (hst n s w' h)⟩

theorem vc_agree {P : Program} {E : List (Nat × TypeId)} {N : Nat} {ann : Ann} : ∀ (c : Code) (ws : List Nat) (ρ0 : Env) (Q Q' : Post) (ρ : Env) (w : World), noRange c = true → (∀ i, i ∈ writes c → i ∈ ws) → Agree ws ρ0 ρ →
    (∀ ρ w, Agree ws ρ0 ρ → Q.nrm ρ w → Q'.nrm ρ w) → (∀ ρ w, Agree ws ρ0 ρ → Q.ret ρ w → Q'.ret ρ w) → (∀ i ρ w, Agree ws ρ0 ρ → Q.exit i ρ w → Q'.exit i ρ w) → vc P E N ann c Q ρ w → vc P E N ann c Q' ρ w := by
  intro c
  induction c with
  | skip => intro ws ρ0 Q Q' ρ w _ _ ha h1 _ _ h; exact h1 _ _ ha h
  | region id ops b =>
    intro ws ρ0 Q Q' ρ w _ hw ha h1 _ _ h
    cases b with
    | false =>
      simp only [vc] at *
      exact vcOps_agree h1 ops.toList ρ w (fun o ho x hx => hw x (mem_writes_region (id := id) (b := false) o ho x hx)) ha h
    | true =>
      simp only [vc] at *
      obtain ⟨S, hS, h⟩ := h
      exact ⟨S, hS, vcDraw_agree h1 (fun o ho x hx => hw x (mem_writes_region (id := id) (b := true) o ho x hx)) _ _ _ _ _ _ ha h⟩
  | seq a b iha ihb =>
    intro ws ρ0 Q Q' ρ w hr hw ha h1 h2 h3 h
    simp only [noRange, Bool.and_eq_true] at hr
    simp only [vc] at *
    exact iha ws ρ0 ⟨fun ρ w => vc P E N ann b Q ρ w, Q.ret, Q.exit⟩ ⟨fun ρ w => vc P E N ann b Q' ρ w, Q'.ret, Q'.exit⟩ ρ w hr.1 (fun i hi => hw i (List.mem_append_left _ hi)) ha
      (fun ρ w ha h => ihb ws ρ0 Q Q' ρ w hr.2 (fun i hi => hw i (List.mem_append_right _ hi)) ha h1 h2 h3 h) h2 h3 h
  | cond x a b iha ihb =>
    intro ws ρ0 Q Q' ρ w hr hw ha h1 h2 h3 h
    simp only [noRange, Bool.and_eq_true] at hr
    simp only [vc] at *
    split <;> simp_all only
    exact brc_mono (iha ws ρ0 Q Q' ρ w trivial (fun i hi => hw i (List.mem_append_left _ hi)) ha h1 h2 h3) (ihb ws ρ0 Q Q' ρ w trivial (fun i hi => hw i (List.mem_append_right _ hi)) ha h1 h2 h3) h
  | block id c ih =>
    intro ws ρ0 Q Q' ρ w hr hw ha h1 h2 h3 h
    simp only [vc] at *
    refine ih ws ρ0 ⟨Q.nrm, Q.ret, fun i ρ w => match Nat.beq i id with | true => Q.nrm ρ w | false => Q.exit i ρ w⟩ ⟨Q'.nrm, Q'.ret, fun i ρ w => match Nat.beq i id with | true => Q'.nrm ρ w | false => Q'.exit i ρ w⟩ ρ w hr hw ha h1 h2 (fun i ρ w ha h => ?_) h
    dsimp only at *
    cases hb : Nat.beq i id <;> simp only [hb] at h ⊢
    · exact h3 _ _ _ ha h
    · exact h1 _ _ ha h
  | loop c ih =>
    intro ws ρ0 Q Q' ρ w hr hw ha h1 h2 h3 h
    simp only [vc] at *
    refine getK_mono (fun s h => LoopT_mono (fun s w K h g => ?_) h) h
    exact ih ws ρ0 ⟨_, Q.ret, Q.exit⟩ ⟨_, Q'.ret, Q'.exit⟩ _ w hr hw (ha.trans ((mix_agree (writes c) _ ρ).mono hw)) (fun _ _ _ h => h) h2 h3 (h g)
  | exit id => intro ws ρ0 Q Q' ρ w _ _ ha _ _ h3 h; exact h3 _ _ _ ha h
  | scope c ih => intro ws ρ0 Q Q' ρ w _ _ _ _ _ _ h; exact h.elim
  | label l => intro ws ρ0 Q Q' ρ w _ _ ha h1 _ _ h; exact h1 _ _ ha h
  | goto l => intro ws ρ0 Q Q' ρ w _ _ _ _ _ _ h; exact h.elim
  | ret => intro ws ρ0 Q Q' ρ w _ _ ha _ h2 _ h; exact h2 _ _ ha h
  | refuse y => intro ws ρ0 Q Q' ρ w _ _ _ _ _ _ h; exact h.elim
  | rangeFunc f ps as b => intro ws ρ0 Q Q' ρ w hr; cases hr

theorem Shows.of_eq {N : Nat} {a : Act} {ρ ρ' : Env} (h : Shows N a ρ) (he : ∀ i, ρ' i = ρ i) : Shows N a ρ' := ⟨h.size, fun i hi => by rw [he i]; exact h.get i hi, by rw [he N]; exact h.defers⟩

theorem postOf_then {N : Nat} {Q : Post} {nrm : Env → World → Prop} {next : Act → World → Prop} (hn : ∀ ρ w a, Shows N a ρ → nrm ρ w → next a w) :
    ∀ e a w, postOf N ⟨nrm, Q.ret, Q.exit⟩ e a w → Exit.then next (postOf N Q) e a w := by
  intro e a w h
  cases e with
  | normal => obtain ⟨ρ, hs, h⟩ := h; exact hn ρ w a hs h
  | _ => exact h

/-- A loop: an invariant that bears a number, which every round lowers. -/
theorem wpIn_loop_ghost {F : Fence} {n : Nat} {P : Program} {Q : Exit → Act → World → Prop} {a : Act} {w : World} {c : Code} (I : Nat → Act → World → Prop) (n₀ : Nat) (h₀ : I n₀ a w)
    (round : ∀ k a w, I k a w → c.wpIn F n P (Exit.then (fun a' w' => ∃ n', n' < k ∧ I n' a' w') Q) a w) : (Code.loop c).wpIn F n P Q a w := by
  refine wpIn_loop (fun a w => ∃ n, I n a w) (fun a w => leastOf (fun n => I n a w)) ⟨n₀, h₀⟩ ?_
  intro a w hI
  refine wpIn_mono (round _ a w (leastOf_spec hI).1) ?_
  intro e a' w' hq
  cases e with
  | normal =>
    obtain ⟨n', hlt, hI'⟩ := hq
    exact show (∃ n, I n a' w') ∧ leastOf (fun n => I n a' w') < leastOf (fun n => I n a w) from ⟨⟨n', hI'⟩, Nat.lt_of_le_of_lt ((leastOf_spec ⟨n', hI'⟩).2 n' hI') hlt⟩
  | exit id => exact hq
  | goto l => exact hq
  | ret => exact hq
  | panic ch => exact hq
  | outgrown => exact hq

/-- Loops, and rounds, without a range over a function within, under a check on each. -/
def loopsOk (N : Nat) : Code → Bool
  | .seq a b | .cond _ a b => loopsOk N a && loopsOk N b
  | .block _ c | .scope c => loopsOk N c
  | .loop c => noRange c && loopsOk N c
  | .rangeFunc g ps a b => operandOk N g && psOk N ps.toList && noRange a && noRange b && codeOk N a && codeOk N b && loopsOk N a && loopsOk N b
  | _ => true

theorem setPs_shows {P : Program} {E : List (Nat × TypeId)} {N : Nat} {K : List Value → Env → Prop} : ∀ (ps : List Nat) (ρ : Env) (tmps : Array Value), psOk N ps = true → tmps.size = N → (∀ i, i < N → tmps.getD i undef = ρ i) → ρ N = undef →
    (∀ args ρ', args.length = ps.length → Shows N { tmps := (ps.zip args).foldl (fun tmps (t, a) => tmps.setIfInBounds t a) tmps, defers := [] } ρ' → K args ρ') → allArgs P E ps ρ K
  | [], ρ, tmps, _, hs, hg, hN, h => h [] ρ rfl ⟨hs, hg, by rw [hN]; rfl⟩
  | p :: ps, ρ, tmps, hok, hs, hg, hN, h => by
    simp only [psOk, Bool.and_eq_true] at hok
    have hp : p < N := Nat.blt_eq ▸ hok.1
    unfold allArgs
    split
    · refine allTy_of fun v => ?_
      refine setPs_shows ps (upd ρ p v) (tmps.setIfInBounds p v) hok.2 (by simp [hs]) (fun i hi => ?_) (by rw [upd_other (Nat.ne_of_gt hp)]; exact hN) fun args ρ' hl hsh => h (v :: args) ρ' (by simp [hl]) hsh
      by_cases e : i = p
      · subst e
        rw [upd_same]
        simp [hs, hi]
      · rw [upd_other e, ← hg i hi]
        simp [Array.getElem?_setIfInBounds_ne (Ne.symm e)]
    · trivial

theorem vc_sound {P : Program} {E : List (Nat × TypeId)} {N : Nat} {ann : Ann} (hm : P.follows .mixedOrders = true) : ∀ (c : Code) (r : Option Nat) (Q : Post) (ρ : Env) (w : World) (a : Act), (r = none ∨ noRange c = true) → codeOk N c = true → loopsOk N c = true → Shows N a ρ → vc P E N ann c Q ρ w → c.wpIn (Fr r) 0 P (postOf N Q) a w := by
  intro c
  induction c with
  | skip => intro r Q ρ w a _ _ _ hs h; exact wpIn_skip ⟨ρ, hs, h⟩
  | region id ops b =>
    intro r Q ρ w a _ hok _ hs h
    have hok' : ops.toList.all (operOk N) = true := hok
    cases b with
    | false =>
      refine wpIn_region_list ?_
      exact vcOps_sound hok' ops.toList ρ w a Q.nrm _ (List.all_eq_true.1 hok') hs h (fun ρ w a hs hk => ⟨ρ, hs, hk⟩)
    | true =>
      obtain ⟨S, hS, h⟩ := h
      refine wpIn_region_any hm (wpAny_of_D _ _ [] S _ _ ?_)
      have := vcDraw_sound (r := r) (Q := postOf N Q) hok' (fun ρ w a hs hk => ⟨ρ, hs, hk⟩) (fun c a w h => h) _ _ _ _ ρ _ a hs hS h
      simpa using this
  | seq x y ihx ihy =>
    intro r Q ρ w a hr hok hl hs h
    simp only [codeOk, loopsOk, noRange, Bool.and_eq_true] at hok hl hr
    refine wpIn_seq (wpIn_mono (ihx r _ ρ w a (hr.imp id (·.1)) hok.1 hl.1 hs h) ?_)
    exact postOf_then (Q := Q) fun ρ w a hs h => ihy r Q ρ w a (hr.imp id (·.2)) hok.2 hl.2 hs h
  | cond x y z ihy ihz =>
    intro r Q ρ w a hr hok hl hs h
    simp only [codeOk, loopsOk, noRange, Bool.and_eq_true] at hok hl hr
    simp only [vc] at h
    split at h
    · rename_i t ht
      have he : a.eval x = .bool t := by rw [hs.ev hok.1.1, ht]
      refine wpIn_cond_split he (fun h1 => ?_) (fun h1 => ?_)
      · subst h1; exact ihy r Q ρ w a (hr.imp id (·.1)) hok.1.2 hl.1 hs h
      · subst h1; exact ihz r Q ρ w a (hr.imp id (·.2)) hok.2 hl.2 hs h
    · exact h.elim
  | block id c ih =>
    intro r Q ρ w a hr hok hl hs h
    simp only [vc] at h
    refine wpIn_block (wpIn_mono (ih r _ ρ w a hr hok hl hs h) fun e a w h => ?_)
    cases e with
    | exit i =>
      obtain ⟨ρ, hs, h⟩ := h
      simp only [Exit.inBlock]
      by_cases hi : i = id
      · subst hi
        rw [if_pos rfl]
        simp at h
        exact ⟨ρ, hs, h⟩
      · rw [if_neg hi]
        have hb : Nat.beq i id = false := by
          cases hb : Nat.beq i id
          · rfl
          · exact absurd (Nat.eq_of_beq_eq_true hb) hi
        simp only [hb] at h
        exact ⟨ρ, hs, h⟩
    | _ => exact h
  | loop c ih =>
    intro r Q ρ w a hr hok hl hs h
    simp only [loopsOk, Bool.and_eq_true] at hl
    obtain ⟨s0, ⟨I, n, hI, hst⟩, hs0⟩ := getK_of h
    have hmix : ∀ g, Agree (writes c) ρ g → ∀ i, mix (writes c) g ρ i = g i := fun g hg i => by
      unfold mix
      cases hb : memN (writes c) i with
      | true => rfl
      | false => exact (hg i (fun hm => by rw [memN_iff.2 hm] at hb; cases hb)).symm
    refine wpIn_loop_ghost (fun n a w => ∃ g s, Shows N a (mix (writes c) g ρ) ∧ I n s w ∧ ∀ i, putK _ s g i = g i) n ⟨ρ, s0, hs.of_eq (hmix ρ (Agree.refl _ _)), hI, hs0⟩ ?_
    rintro n a w ⟨g, s, hs, hg, hput⟩
    have h1 := hst n s w hg g
    have hgg : putK (annOf ann (firstRegion c)) s g = g := funext hput
    rw [hgg] at h1
    have h2 := vc_agree (P := P) (E := E) (N := N) c (writes c) ρ ⟨fun ρ'' w'' => getK (annOf ann (firstRegion c)) ρ'' fun s' => ∃ n', n' < n ∧ I n' s' w'', Q.ret, Q.exit⟩ ⟨fun ρ'' w'' => Agree (writes c) ρ ρ'' ∧ getK (annOf ann (firstRegion c)) ρ'' fun s' => ∃ n', n' < n ∧ I n' s' w'', Q.ret, Q.exit⟩ (mix (writes c) g ρ) w hl.1 (fun _ h => h) (mix_agree _ _ _)
      (fun _ _ ha h => ⟨ha, h⟩) (fun _ _ _ h => h) (fun _ _ _ _ h => h) h1
    refine wpIn_mono (ih r _ _ w a (.inr hl.1) hok hl.2 hs h2) ?_
    refine postOf_then (Q := Q) fun ρ'' w a hs ⟨ha, hk⟩ => ?_
    obtain ⟨s', ⟨n', hlt, hI⟩, hs'⟩ := getK_of hk
    exact ⟨n', hlt, ρ'', s', hs.of_eq (hmix ρ'' ha), hI, hs'⟩
  | exit id => intro r Q ρ w a _ _ _ hs h; exact wpIn_exit ⟨ρ, hs, h⟩
  | scope c ih => intro r Q ρ w a _ _ _ hs h; exact h.elim
  | label l => intro r Q ρ w a _ _ _ hs h; exact wpIn_label ⟨ρ, hs, h⟩
  | goto l => intro r Q ρ w a _ _ _ hs h; exact h.elim
  | ret => intro r Q ρ w a _ _ _ hs h; exact wpIn_ret ⟨ρ, hs, h⟩
  | refuse y => intro r Q ρ w a _ _ _ hs h; exact h.elim
  | rangeFunc g ps as b iha ihb =>
    intro r Q ρ w a hr _ hl hs h
    rcases hr with rfl | hr
    case inr => cases hr
    simp only [loopsOk, Bool.and_eq_true] at hl
    obtain ⟨⟨⟨⟨⟨⟨⟨hl1, hl2⟩, hl3⟩, hl4⟩, hl5⟩, hl6⟩, hl7⟩, hl8⟩ := hl
    simp only [vc] at h
    unfold rangeV at h
    split at h
    case h_2 => exact h.elim
    rename_i gf first lb hg
    obtain ⟨hp, h⟩ := h
    have hev : a.eval g = .func (.func gf) first lb := by rw [hs.ev hl1, hg]
    refine wpIn_rangeFunc fun fn _ => ?_
    let X : LB := ⟨fn, a.tmps, ps, as, b⟩
    let w1 := (w.alloc (.deferred (some []))).alloc (X.loop w.heap.size .ready none)
    refine ⟨w.heap.size + 1, [{ target := .collected w.heap.size, args := #[] }], w1, { target := .fn (.func gf) lb, args := first ++ #[Value.func (.yield (w.heap.size + 1)) #[] #[]] }, w1, gf, (first.toList ++ [Value.func (.yield (w.heap.size + 1)) #[] #[]] ++ lb.toList).toArray, w1, run_enterLoop_outer _ _ _ _ _, ?_, fun _ _ => trivial, ?_, (fun h => by cases h), ?_⟩
    · simp only [resolve, hev, Deferred.ofValue]
      simp
      rfl
    · have he : (first.toList ++ [Value.func (.yield (w.heap.size + 1)) #[] #[]] ++ lb.toList).toArray = (first ++ #[Value.func (.yield (w.heap.size + 1)) #[] #[]]) ++ lb := by
        apply Array.ext'
        simp
      rw [he]
      simp only [invoke]
      exact callFunc_plain hp _ _
    · have hc := h X (w.heap.size + 1) w.heap.size w1 ⟨rfl, rfl, rfl⟩ ?_
      · refine CallsIn.mono (F := Fr none) ((callsIn_wide (n := 0)).2 hc) ?_
        rintro e w3 ⟨⟨v, rfl⟩, st, pe, hl, hst, hm⟩
        have hsh : Shows N { a with defers := [{ target := .collected w.heap.size, args := #[] }] ++ a.defers } (upd ρ N (mark (ρ N) w.heap.size)) := by
          refine ⟨hs.size, fun i hi => by rw [upd_other (Nat.ne_of_lt hi)]; exact hs.get i hi, ?_⟩
          rw [upd_same]
          show _ :: a.defers = _
          rw [hs.defers]
          unfold mark
          split
          · rename_i vs hv
            rw [hv]
            simp [dsOf, markOf]
          · rename_i hn
            have : dsOf (ρ N) = [] := by
              unfold dsOf
              split
              · rename_i vs hv; exact absurd hv (hn vs)
              · rfl
            rw [this]
            simp [dsOf, markOf]
        refine ⟨pe, _, run_endLoop hl (by simpa using hst), ?_⟩
        cases pe with
        | none => exact ⟨_, hsh, hm⟩
        | some c =>
          cases c with
          | ret => exact wpIn_ret ⟨_, hsh, hm⟩
          | exit id =>
            cases hx : exitsOut [] b with
            | true =>
              rw [hx] at hm
              exact wpIn_exit ⟨_, hsh, hm⟩
            | false =>
              rw [hx] at hm
              exact (hm : False).elim
          | _ => exact hm.elim
      · refine setPs_shows ps.toList (upd ρ N undef) a.tmps hl2 hs.size (fun i hi => by rw [upd_other (Nat.ne_of_lt hi)]; exact hs.get i hi) (upd_same _ _ _) fun args ρ' hlen hsh w' R hB => ⟨by simpa using hlen, ?_⟩
        have hz : (ps.zip args.toArray).foldl (fun tmps (t, a) => tmps.setIfInBounds t a) a.tmps = (ps.toList.zip args).foldl (fun tmps (t, a) => tmps.setIfInBounds t a) a.tmps := by
          rw [← Array.foldl_toList]
          simp
        show as.wpIn _ 0 P _ { tmps := (ps.zip args.toArray).foldl (fun tmps (t, a) => tmps.setIfInBounds t a) a.tmps, defers := [] } w'
        rw [hz]
        refine wpIn_mono (iha (some (w.heap.size + 1)) _ ρ' w' _ (.inr hl3) hl5 hl7 hsh hB) ?_
        intro e a1 w1 hq
        cases e with
        | normal =>
          obtain ⟨ρ1, hs1, w2, hb, hq⟩ := hq
          refine ⟨w2, hb, wpIn_mono (ihb (some (w.heap.size + 1)) _ ρ1 w2 a1 (.inr hl4) hl6 hl8 hs1 hq) ?_⟩
          intro e a2 w3 hq
          cases e with
          | normal => obtain ⟨_, _, hq⟩ := hq; exact hq
          | ret => obtain ⟨_, _, hq⟩ := hq; exact hq
          | exit i => obtain ⟨_, _, hq⟩ := hq; exact hq
          | _ => exact hq
        | ret => obtain ⟨_, _, hq⟩ := hq; exact hq
        | exit i => obtain ⟨_, _, hq⟩ := hq; exact hq
        | _ => exact hq

end Go.Proofs.Ytonjaaljnjjjcaa
