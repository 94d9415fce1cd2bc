/- 'vc' is sound: the operations that write or call, regions, and whole codes. Conditions: as in V2. -/
import Derived.Test.YtonjaaljnjjjcaaV2
set_option linter.unusedVariables false
set_option linter.unusedSimpArgs false
namespace Go.Proofs.Ytonjaaljnjjjcaa
open Go

theorem Does_ok {P : Program} {m : Sem Value} {w w' : World} {v : Value} {K : Value → World → Prop} (h : m.run P w = .ok v w') (hk : K v w') : Does P (do pure (.value (← m))) w K := by
  unfold Does
  simp [h, hk]

theorem Does_unit {P : Program} {m : Sem Unit} {w w' : World} {K : Value → World → Prop} (h : m.run P w = .ok () w') (hk : K undef w') : Does P (do m; pure .skip) w K := by
  unfold Does
  simp [h, hk]

theorem Does_mono {P : Program} {m : Sem Next} {w : World} {K K' : Value → World → Prop} (hm : ∀ v w, K v w → K' v w) (h : Does P m w K) : Does P m w K' := by
  unfold Does at *
  split at h
  · exact hm _ _ h
  · exact hm _ _ h
  · exact h.mono fun e w'' ⟨v, he, hk⟩ => ⟨v, he, hm _ _ hk⟩
  · exact h.mono fun e w'' ⟨v, he, hk⟩ => ⟨v, he, hm _ _ hk⟩
  · exact h

theorem callFunc_plain {P : Program} {f : FuncId} (h : plainFunc P f = true) (args : Array Value) (w : World) : (callFunc f args).run P w = .ok (.enter f args) w := by
  unfold plainFunc at h
  split at h
  · rename_i fn hf
    simp only [Bool.and_eq_true, Bool.not_eq_true'] at h
    obtain ⟨h1, h2⟩ := h
    have h4 : ¬ fn.body = none := by cases hb : fn.body <;> simp_all
    have h5 : ¬ fn.name = "runtime.NumGoroutine" := by simpa using h2
    simp [callFunc, hf, h4, h5]
  · cases h

theorem Does_call {P : Program} {f : FuncId} (hp : plainFunc P f = true) {args : Array Value} {w : World} {K : Value → World → Prop}
    (h : Calls P f args w fun e w' => ∃ v, e = .returned v ∧ K v w') : Does P (callFunc f args) w K := by
  unfold Does
  rw [callFunc_plain hp]
  exact h

theorem efOp_sound {P : Program} {ρ : Env} {o : Oper} {w : World} {K : Value → World → Prop} (h : efOp P ρ o.op o.type w K) : Does P (execOp (ev ρ) o) w K := by
  obtain ⟨dst, op, ty, pos, after, guard⟩ := o
  dsimp only at h
  cases op with
  | alloc t => obtain ⟨a, w', hr, hk⟩ := h; exact Does_ok hr hk
  | box t x => obtain ⟨a, w', hr, hk⟩ := h; exact Does_ok hr hk
  | buildSlice t n parts =>
    simp only [efOp, evp_arr] at h
    obtain ⟨a, w', hr, hk⟩ := h
    exact Does_ok hr hk
  | store t a x => obtain ⟨w', hr, hk⟩ := h; exact Does_unit hr hk
  | mapUpdate t m k x => obtain ⟨w', hr, hk⟩ := h; exact Does_unit hr hk
  | insert t m k x => obtain ⟨w', hr, hk⟩ := h; exact Does_unit hr hk
  | makeMap t r => obtain ⟨a, w', hr, hk⟩ := h; exact Does_ok hr hk
  | makeSlice t l c => obtain ⟨a, w', hr, hk⟩ := h; exact Does_ok hr hk
  | convert s d x => obtain ⟨a, w', hr, hk⟩ := h; exact Does_ok hr hk
  | range t x => obtain ⟨a, w', hr, hk⟩ := h; exact Does_ok hr hk
  | next it s =>
    simp only [efOp] at h
    cases s with
    | true => exact h.elim
    | false =>
      simp only [NextM] at h
      split at h
      · rename_i w' hr
        exact Does_ok hr h
      · rename_i k v w' hr
        exact Does_ok hr h
      · exact h.elim
  | call c =>
    obtain ⟨callee, args, ats⟩ := c
    cases callee with
    | builtin b =>
      cases b with
      | append => simp only [efOp, evs_arr] at h; obtain ⟨a, w', hr, hk⟩ := h; exact Does_ok (m := Builtin.append_ ats ty (args.map (ev ρ))) hr hk
      | copy => simp only [efOp, evs_arr] at h; obtain ⟨a, w', hr, hk⟩ := h; exact Does_ok (m := Builtin.copy_ ats ty (args.map (ev ρ))) hr hk
      | delete => simp only [efOp, evs_arr] at h; obtain ⟨w', hr, hk⟩ := h; exact Does_ok (m := Builtin.delete_ ats ty (args.map (ev ρ))) hr hk
      | _ => exact h.elim
    | value f =>
      have hx : ∀ g fst cap, ev ρ f = .func (.func g) fst cap → execOp (ev ρ) ⟨dst, .call ⟨.value f, args, ats⟩, ty, pos, after, guard⟩ = callFunc g (fst.toList ++ evs ρ args ++ cap.toList).toArray := by
        intro g fst cap hg
        have he : (fst.toList ++ evs ρ args ++ cap.toList).toArray = (fst ++ args.map (ev ρ)) ++ cap := by
          rw [← evs_arr]
          apply Array.ext'
          simp
        rw [he]
        simp only [execOp, resolve, hg, Deferred.ofValue, pure_bind, invoke]
      have hV : callV P (ev ρ f) (evs ρ args) w (fun e w' => exTy P ty fun v => e = .returned v ∧ K v w') → Does P (execOp (ev ρ) ⟨dst, .call ⟨.value f, args, ats⟩, ty, pos, after, guard⟩) w K := by
        intro h
        unfold callV at h
        split at h
        · rename_i g fst cap hg
          rw [hx g fst cap hg]
          exact Does_call h.1 (h.2.mono fun e w' hk => let ⟨v, he, hk⟩ := exTy_ex hk; ⟨v, he, hk⟩)
        · rename_i l fst cap hg
          have he : (fst.toList ++ evs ρ args).toArray = fst ++ args.map (ev ρ) := by
            rw [← evs_arr]
            apply Array.ext'
            simp
          have hx' : execOp (ev ρ) ⟨dst, .call ⟨.value f, args, ats⟩, ty, pos, after, guard⟩ = Instr.yield l (fst.toList ++ evs ρ args).toArray := by
            rw [he]
            simp only [execOp, resolve, hg, Deferred.ofValue, pure_bind, invoke]
          obtain ⟨f', tmps, as, b, w', hr, h⟩ := h
          rw [hx']
          unfold Does
          rw [hr]
          exact h.mono fun e w' hk => let ⟨v, he, hk⟩ := exTy_ex hk; ⟨v, he, hk⟩
        · exact h.elim
      cases f with
      | func g =>
        have h0 := hx g #[] #[] rfl
        rw [h0]
        simp only [efOp] at h
        have he : ((#[] : Array Value).toList ++ evs ρ args ++ (#[] : Array Value).toList).toArray = (evs ρ args).toArray := by simp
        rw [he]
        split at h
        · rename_i hp
          exact Does_call hp (h.mono fun e w' hk => let ⟨v, he, hk⟩ := exRes_ex hk; ⟨v, he, hk⟩)
        · exact h
      | tmp t => exact hV h
      | const v => exact hV h
      | global g => exact hV h
    | _ => exact h.elim
  | _ => exact h.elim

/-! ### Frames -/
def operandOk (N : Nat) : Operand → Bool
  | .tmp t => Nat.blt t N
  | _ => true

def notSelect : Op → Bool
  | .select .. => false
  | .defer .. => false
  | _ => true

def operOk (N : Nat) (o : Oper) : Bool :=
  (match o.dst with
   | some d => Nat.blt d N
   | none => true) && (o.op.operands.toList.all (operandOk N)) && notSelect o.op

def codeOk (N : Nat) : Code → Bool
  | .region _ ops _ => ops.toList.all (operOk N)
  | .seq a b => codeOk N a && codeOk N b
  | .cond c a b => operandOk N c && codeOk N a && codeOk N b
  | .block _ c | .loop c | .scope c => codeOk N c
  | _ => true

theorem Shows.ev {N : Nat} {a : Act} {ρ : Env} (h : Shows N a ρ) {x : Operand} (hx : operandOk N x = true) : a.eval x = ev ρ x := by
  cases x with
  | tmp t => exact h.get t ((Nat.blt_eq ▸ hx : t < N))
  | _ => rfl

theorem upd_same (ρ : Env) (d : Nat) (v : Value) : upd ρ d v d = v := by simp [upd]
theorem upd_other {ρ : Env} {d i : Nat} {v : Value} (h : i ≠ d) : upd ρ d v i = ρ i := by
  unfold upd
  split
  · rename_i hb; exact absurd (Nat.eq_of_beq_eq_true hb) h
  · rfl

theorem Shows.put {N : Nat} {a : Act} {ρ : Env} (h : Shows N a ρ) {d : Option Nat} (hd : ∀ x, d = some x → x < N) (v : Value) : Shows N (a.put d v) (updO ρ d v) := by
  cases d with
  | none => exact h
  | some d =>
    have hd' := hd d rfl
    refine ⟨by simp [Act.put, h.size], fun i hi => ?_, by rw [updO, upd_other (Nat.ne_of_gt hd')]; exact h.defers⟩
    by_cases e : i = d
    · subst e
      simp [Act.put, updO, upd_same, h.size, hi]
    · rw [updO, upd_other e, ← h.get i hi]
      simp [Act.put, Array.getElem?_setIfInBounds_ne (Ne.symm e)]

theorem Shows.exec {N : Nat} {a : Act} {ρ : Env} (h : Shows N a ρ) {o : Oper} (ho : operOk N o = true) : execOp a.eval o = execOp (Go.Proofs.Ytonjaaljnjjjcaa.ev ρ) o := by
  simp only [operOk, Bool.and_eq_true] at ho
  obtain ⟨⟨_, h2⟩, h3⟩ := ho
  refine execOp_congr o (fun cs b e => by rw [e] at h3; cases h3) fun x hx => h.ev ?_
  exact List.all_eq_true.1 h2 x (by simpa using hx)

theorem operOk_dst {N : Nat} {o : Oper} (ho : operOk N o = true) : ∀ x, o.dst = some x → x < N := by
  intro x hx
  simp only [operOk, Bool.and_eq_true, hx] at ho
  exact (Nat.blt_eq ▸ ho.1.1 : x < N)

theorem operOk_defer {N : Nat} {o : Oper} (ho : operOk N o = true) : ∀ c, o.op ≠ .defer c := by
  intro c e
  simp only [operOk, Bool.and_eq_true, e, notSelect] at ho
  exact absurd ho.2 (by decide)

theorem Does_wp {P : Program} {r : Option Nat} {o : Oper} {a : Act} {w : World} {K : Value → World → Prop} {next : Act → World → Prop} {Q : Exit → Act → World → Prop}
    (hd : ∀ c, o.op ≠ .defer c) (h : Does P (execOp a.eval o) w K) (hn : ∀ v w, K v w → next (a.put o.dst v) w) : o.wpIn (Fr r) 0 P a w next Q := by
  refine ⟨fun _ _ => trivial, ?_⟩
  rw [Oper.semAt_eq _ _ _ hd]
  have hdep : (Fr r).depth.isSome = true → 1 ≤ 0 := fun h => by cases h
  unfold Does at h
  split at h <;> rename_i hr <;> simp only [hr, Oper.uponIn]
  · exact hn _ _ h
  · exact hn _ _ h
  · refine ⟨hdep, (callsIn_wide (n := 0).2 h : CallsIn (Fr r) 0 P _ _ _ _).mono fun e w'' ⟨v, he, hk⟩ => ?_⟩
    subst he
    exact hn _ _ hk
  · refine ⟨hdep, (h : RoundIn (Fr r) 0 P _ _ _ _ _ _ _).mono fun e w'' ⟨v, he, hk⟩ => ?_⟩
    subst he
    exact hn _ _ hk
  · exact h.elim

theorem At_good (P : Program) (w : World) : Good P (At P w) fun m v => m.run P w = .ok (.value v) w :=
  ⟨fun m v h => by simp [show m.run P w = .ok v w from h], fun _ _ h => h w⟩

theorem AtS_good (P : Program) (S : World → Prop) : Good P (AtS P S) fun m v => ∀ w, S w → m.run P w = .ok (.value v) w :=
  ⟨fun m v h w hw => by simp [h w hw], fun _ _ h w _ => h w⟩

theorem vcOp_sound {P : Program} {E : List (Nat × TypeId)} {ρ : Env} {o : Oper} {w : World} {K : Value → World → Prop} (h : vcOp P E ρ o w K) : Does P (execOp (ev ρ) o) w K := by
  unfold vcOp at h
  split at h
  · obtain ⟨v, hr, hk⟩ := rdOp_sound (At_good P w) h
    unfold Does
    rw [hr]
    exact hk
  · exact efOp_sound h

theorem guardDst_some {ops : List Oper} {j d : Nat} (h : guardDst ops j = some d) : (ops.toArray[j]?).bind (·.dst) = some d := by
  unfold guardDst at h
  simp only [List.getElem?_toArray]
  split at h
  · rename_i o ho; rw [ho]; exact h
  · cases h

/-- What a guard says, in the frame's words. -/
theorem guardK_of {N : Nat} {ops : List Oper} {o : Oper} {a : Act} {ρ : Env} (hs : Shows N a ρ) (hok : ∀ j d, guardDst ops j = some d → d < N) {yes no : Env → Prop} (h : guardK ops o.guard ρ yes no) :
    ∃ ρ', Shows N a ρ' ∧ (∀ i, ρ' i = ρ i) ∧ ((Region.wanted o (yielded ops.toArray a.tmps) = true ∧ yes ρ') ∨ (Region.wanted o (yielded ops.toArray a.tmps) = false ∧ no ρ')) := by
  unfold guardK at h
  split at h
  · rename_i hg
    exact ⟨ρ, hs, fun _ => rfl, .inl ⟨by simp [Region.wanted, hg], h⟩⟩
  · rename_i j want hg
    split at h
    · exact h.elim
    · rename_i d hd
      have hdN := hok j d hd
      split at h
      · rename_i t ht
        have hy : yielded ops.toArray a.tmps j = some t := by
          unfold yielded
          rw [guardDst_some hd]
          have h1 := hs.get d hdN
          rw [ht] at h1
          have h2 : d < a.tmps.size := by rw [hs.size]; exact hdN
          have h3 : a.tmps[d]? = some (.bool t) := by
            rw [Array.getElem?_eq_getElem h2]
            have : a.tmps.getD d undef = a.tmps[d] := by simp [h2]
            rw [← this, h1]
          simp [h3]
        have hsame : ∀ i, upd ρ d (.bool t) i = ρ i := fun i => by
          by_cases e : i = d
          · subst e; rw [upd_same, ht]
          · exact upd_other e
        have hs' : Shows N a (upd ρ d (.bool t)) := ⟨hs.size, fun i hi => by rw [hsame i]; exact hs.get i hi, by rw [hsame N]; exact hs.defers⟩
        refine ⟨upd ρ d (.bool t), hs', hsame, ?_⟩
        simp only [Region.wanted, hg, hy]
        cases want <;> cases t <;> simp [brc] at h ⊢ <;> exact h
      · rename_i hnb
        refine ⟨ρ, hs, fun _ => rfl, .inr ⟨?_, h⟩⟩
        have h1 := hs.get d hdN
        have h2 : d < a.tmps.size := by rw [hs.size]; exact hdN
        have h3 : a.tmps[d]? = some (ρ d) := by
          rw [Array.getElem?_eq_getElem h2]
          have : a.tmps.getD d undef = a.tmps[d] := by simp [h2]
          rw [← this, h1]
        have hy : yielded ops.toArray a.tmps j = none := by
          unfold yielded
          rw [guardDst_some hd]
          simp only [Option.bind_some, h3]
          split
          · rename_i b hb
            injection hb with hb
            exact absurd hb (hnb b)
          · rfl
        simp [Region.wanted, hg, hy]

theorem vcOps_sound {P : Program} {r : Option Nat} {E : List (Nat × TypeId)} {N : Nat} {ops : List Oper} (hok : ops.all (operOk N) = true) : ∀ (l : List Oper) (ρ : Env) (w : World) (a : Act) (K : Env → World → Prop) (Q : Exit → Act → World → Prop),
    (∀ o ∈ l, operOk N o = true) → Shows N a ρ → vcOps P E ops l ρ w K → (∀ ρ w a, Shows N a ρ → K ρ w → Q .normal a w) → wpListIn (Fr r) 0 P ops.toArray Q l a w
  | [], ρ, w, a, K, Q, _, hs, h, hq => hq _ _ _ hs h
  | o :: rest, ρ, w, a, K, Q, hl, hs, h, hq => by
    have hd : ∀ j d, guardDst ops j = some d → d < N := fun j d hj => by
      unfold guardDst at hj
      split at hj
      · rename_i o' ho
        exact operOk_dst (List.all_eq_true.1 hok o' (List.mem_of_getElem? ho)) d hj
      · cases hj
    have ho := hl o List.mem_cons_self
    simp only [vcOps] at h
    obtain ⟨ρ', hs', _, hw⟩ := guardK_of hs hd h
    unfold wpListIn
    rcases hw with ⟨hw, h⟩ | ⟨hw, h⟩
    · rw [if_pos hw]
      refine (Does_wp (operOk_defer ho) (K := fun v w' => vcOps P E ops rest (updO ρ' o.dst v) w' K) (by rw [hs'.exec ho]; exact vcOp_sound h) fun v w' hk => ?_)
      exact vcOps_sound hok rest _ _ _ K Q (fun o hx => hl o (List.mem_cons_of_mem _ hx)) (hs'.put (operOk_dst ho) v) hk hq
    · rw [if_neg (by simp [hw])]
      refine ⟨fun _ _ => trivial, ?_⟩
      exact vcOps_sound hok rest _ _ _ K Q (fun o hx => hl o (List.mem_cons_of_mem _ hx)) (hs'.put (operOk_dst ho) undef) h hq

end Go.Proofs.Ytonjaaljnjjjcaa
