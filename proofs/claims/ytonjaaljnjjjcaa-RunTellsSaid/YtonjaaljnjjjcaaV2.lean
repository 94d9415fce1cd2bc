/- 'vc' is sound: what it reads as logic, the model's code does. Conditions: the temporaries named lie in the frame. -/
import Derived.Test.YtonjaaljnjjjcaaV1
import Derived.WalkKit
set_option linter.unusedVariables false
set_option linter.unusedSimpArgs false
namespace Go.Proofs.Ytonjaaljnjjjcaa
open Go

theorem run_sizeOf? {P : Program} {t : TypeId} {n : Nat} (h : sizeOf? P t = some n) (w : World) : (sizeOf t).run P w = .ok n w := by
  unfold sizeOf? at h
  cases hi : P.info? t with
  | none => simp [hi] at h
  | some i =>
    simp [hi] at h
    simp [sizeOf, typeInfo, hi, h]

/-- What is asked of a reading's meaning. -/
structure Good (P : Program) (R : Rd) (G : Sem Next → Value → Prop) : Prop where
  rd : ∀ (m : Sem Value) v, R m v → G (do pure (.value (← m))) v
  pure : ∀ m v, (∀ w, m.run P w = .ok (.value v) w) → G m v

theorem equal_bool {P : Program} {t : TypeId} (hu : P.underlying t = some .bool) (a b : Bool) (w : World) : (Op.equal t (.bool a) (.bool b)).run P w = .ok (a == b) w := by
  have h : ∀ d, (Op.equalIn (d + 1) t (.bool a) (.bool b)).run P w = .ok (a == b) w := fun d => by simp [Op.equalIn, run_underlying hu]
  exact h 9999
theorem equal_ptr {P : Program} {t e : TypeId} (hu : P.underlying t = some (.pointer e)) (p : Option Addr) (w : World) : (Op.equal t (.pointer p) (.pointer none)).run P w = .ok p.isNone w := by
  have h : ∀ d, (Op.equalIn (d + 1) t (.pointer p) (.pointer none)).run P w = .ok p.isNone w := fun d => by cases p <;> simp [Op.equalIn, run_underlying hu]
  exact h 9999

theorem binV_sound {P : Program} {op : BinOp} {t : TypeId} {xo yo : Operand} {x y : Value} {E : Prop} {K : Value → Prop} (h : binV P op t x y E K) :
    E ∨ ∃ v, (∀ w, (do eqGuard op t xo yo x y; binOp op t x y : Sem Value).run P w = .ok v w) ∧ K v := by
  unfold binV at h
  split at h
  case h_29 => exact .inl h
  case h_1 =>
    have h1 := Int.not_lt.2 h.1
    refine .inr ⟨_, ?_, h.2⟩
    intro w
    simp [eqGuard, binOp, Op.shift, h1]
  case h_2 =>
    have h1 := Int.not_lt.2 h.1
    refine .inr ⟨_, ?_, h.2⟩
    intro w
    simp [eqGuard, binOp, Op.shift, h1]
  case h_18 =>
    have h1 := h.1
    refine .inr ⟨_, ?_, h.2⟩
    intro w
    simp only [eqGuard, binOp, Op.stringOp]
    rw [if_neg (Int.not_lt.2 h1)]
    simp
  case h_25 =>
    split at h
    · rename_i hu
      refine .inr ⟨_, ?_, h⟩
      intro w
      simp [eqGuard, binOp, equal_bool hu]
    · exact .inl h
  case h_26 =>
    split at h
    · rename_i hu
      refine .inr ⟨_, ?_, h⟩
      intro w
      simp [eqGuard, binOp, equal_bool hu]
    · exact .inl h
  case h_27 =>
    split at h
    · rename_i p _ hu
      refine .inr ⟨_, ?_, h⟩
      intro w
      simp [eqGuard, binOp, equal_ptr hu]
    · exact .inl h
  case h_28 =>
    split at h
    · rename_i p _ hu
      refine .inr ⟨_, ?_, h⟩
      intro w
      simp [eqGuard, binOp, equal_ptr hu]
    · exact .inl h
  all_goals first
    | (obtain ⟨rfl, h'⟩ := kEq_of h
       refine .inr ⟨_, ?_, h'⟩
       intro w
       simp [eqGuard, binOp, Op.intArith, Op.intCmp, Op.intBits]
       done)
    | (obtain ⟨rfl, h0, h'⟩ := kEq_of h
       refine .inr ⟨_, ?_, h'⟩
       intro w
       simp [eqGuard, binOp, Op.intDiv, h0]
       done)
    | (refine .inr ⟨_, ?_, h⟩
       intro w
       simp [eqGuard, binOp, Op.stringOp]
       done)

theorem fieldAt_run {P : Program} {s : TypeId} {f off : Nat} (h : fieldOff P s f = some off) (a : Addr) (w : World) :
    (Instr.fieldAt s (.pointer (some a)) f).run P w = .ok (.pointer (some (a.add off))) w := by
  unfold fieldOff at h
  split at h
  · rename_i fs hu
    split at h
    · rename_i x hx
      split at h
      · rename_i i hi
        split at h
        · cases h
        · rename_i n hn
          injection h with h
          subst h
          have hx' : fs[f]? = some x := by simpa using hx
          simp [Instr.fieldAt, run_underlying hu, hx', Instr.sureAddr, fieldPlace, sizeOf, typeInfo, hi, hn]
      · cases h
    · cases h
  · cases h

theorem sliceBound_run {P : Program} {k : IntKind} {i : Int} {y : Nat} {c : BoundsCode} (h : 0 ≤ i ∧ i ≤ (y : Int)) (w : World) :
    (Instr.sliceBound (.int k i) y c).run P w = .ok i.toNat w := by
  simp [Instr.sliceBound, asIntOf, h]

theorem indexAt_slice {P : Program} {t e : TypeId} {size : Nat} (hu : P.underlying t = some (.slice e)) (hs : sizeOf? P e = some size) {a : Addr} {len cap : Nat} {k : IntKind} {i : Int} (h : 0 ≤ i ∧ i < (len : Int)) (w : World) :
    (Instr.indexAt t (.slice (some a) len cap) (.int k i)).run P w = .ok (.pointer (some (a.add (i.toNat * size)))) w := by
  have := run_sizeOf? hs w
  simp [Instr.indexAt, asIntOf, run_underlying hu, h, this]

theorem indexAt_arr {P : Program} {t e : TypeId} {n size : Nat} (hu : P.underlying t = some (.array n e)) (hs : sizeOf? P e = some size) {a : Addr} {k : IntKind} {i : Int} (h : 0 ≤ i ∧ i < (n : Int)) (w : World) :
    (Instr.indexAt t (.pointer (some a)) (.int k i)).run P w = .ok (.pointer (some (a.add (i.toNat * size)))) w := by
  have := run_sizeOf? hs w
  simp [Instr.indexAt, asIntOf, run_underlying hu, h, this, Instr.sureAddr]

theorem boundK_some {x : Option Value} {d t : Nat} {K : Nat → Prop} (h : boundK x d t K) :
    (x = none ∧ K d) ∨ ∃ k i, x = some (.int k i) ∧ (0 ≤ i ∧ i ≤ (t : Int)) ∧ K i.toNat := by
  unfold boundK at h
  split at h
  · exact .inl ⟨rfl, h⟩
  · exact .inr ⟨_, _, rfl, h⟩
  · exact h.elim

theorem sliceBounds2 {P : Program} {b : Bool} {len cap : Nat} {hi lo : Option Value} {K : Nat → Nat → Prop}
    (h : boundK hi len cap fun h => boundK lo 0 h fun l => K h l) :
    ∃ l h, (∀ w, (Instr.sliceBounds b len cap lo hi none).run P w = .ok (l, h, cap) w) ∧ K h l := by
  rcases boundK_some h with ⟨rfl, h1⟩ | ⟨k, i, rfl, hb, h1⟩
  · rcases boundK_some h1 with ⟨rfl, h2⟩ | ⟨k', i', rfl, hb', h2⟩
    · exact ⟨_, _, fun w => by simp [Instr.sliceBounds], h2⟩
    · exact ⟨_, _, fun w => by simp [Instr.sliceBounds, sliceBound_run hb'], h2⟩
  · rcases boundK_some h1 with ⟨rfl, h2⟩ | ⟨k', i', rfl, hb', h2⟩
    · exact ⟨_, _, fun w => by simp [Instr.sliceBounds, sliceBound_run hb], h2⟩
    · exact ⟨_, _, fun w => by simp [Instr.sliceBounds, sliceBound_run hb, sliceBound_run hb'], h2⟩

theorem sliceBounds3 {P : Program} {len cap : Nat} {m hi : Value} {lo : Option Value} {K : Nat → Nat → Nat → Prop}
    (h : boundK (some m) cap cap fun m => boundK (some hi) len m fun h => boundK lo 0 h fun l => K m h l) :
    ∃ m' l h, (∀ w, (Instr.sliceBounds true len cap lo (some hi) (some m)).run P w = .ok (l, h, m') w) ∧ K m' h l := by
  rcases boundK_some h with ⟨h0, _⟩ | ⟨km, im, hm, hbm, h1⟩
  · cases h0
  injection hm with hm
  subst hm
  rcases boundK_some h1 with ⟨h0, _⟩ | ⟨k, i, hm, hb, h2⟩
  · cases h0
  injection hm with hm
  subst hm
  rcases boundK_some h2 with ⟨rfl, h3⟩ | ⟨k', i', rfl, hb', h3⟩
  · exact ⟨_, _, _, fun w => by simp [Instr.sliceBounds, sliceBound_run hbm, sliceBound_run hb], h3⟩
  · exact ⟨_, _, _, fun w => by simp [Instr.sliceBounds, sliceBound_run hbm, sliceBound_run hb, sliceBound_run hb'], h3⟩

theorem minMax_sound {P : Program} {mx : Bool} {l : List Value} {E : Prop} {K : Value → Prop} (h : minMaxV mx l E K) :
    E ∨ ∃ v, (∀ ats ty w, (if mx then Builtin.max_ ats ty l.toArray else Builtin.min_ ats ty l.toArray : Sem Value).run P w = .ok v w) ∧ K v := by
  unfold minMaxV at h
  split at h
  · obtain ⟨rfl, h'⟩ := kEq_of h
    refine .inr ⟨_, ?_, h'⟩
    intro ats ty w
    cases mx <;> simp [Builtin.max_, Builtin.min_, Builtin.max2, Builtin.min2]
  · exact .inl h

theorem optK_of {α : Type} {p : Option α} {K : α → Prop} (h : optK p K) : ∃ a, p = some a ∧ K a := by
  cases p with
  | none => exact h.elim
  | some a => exact ⟨a, rfl, h⟩

theorem brc_of {t : Bool} {A B : Prop} (h : brc t A B) : (t = true ∧ A) ∨ (t = false ∧ B) := by
  cases t
  · exact .inr ⟨rfl, h⟩
  · exact .inl ⟨rfl, h⟩

theorem evs_arr (ρ : Env) (xs : Array Operand) : (evs ρ xs).toArray = xs.map (ev ρ) := by
  apply Array.ext'
  simp [evs]

theorem evp_arr (ρ : Env) (xs : Array (Nat × Operand)) : (evp ρ xs).toArray = xs.map fun (i, x) => (i, ev ρ x) := by
  apply Array.ext'
  simp [evp]

theorem putL_fold (vs : List Value) : ∀ (cs : List Value) (off k : Nat), (vs.zipIdx k).foldl (fun (cs : Array Value) (p : Value × Nat) => cs.setIfInBounds (off + p.2) p.1) cs.toArray = (putL cs (off + k) vs).toArray := by
  induction vs with
  | nil => intro cs off k; rfl
  | cons v vs ih =>
    intro cs off k
    simp only [List.zipIdx_cons, List.foldl_cons, putL]
    have := ih (cs.set (off + k) v) off (k + 1)
    simpa [Nat.add_assoc] using this

theorem fillL_sound {place : Nat → Option (Nat × Nat)} : ∀ (parts : List (Nat × Value)) (cells l : List Value), fillL place cells parts = some l → Instr.fill place cells.toArray parts = some l.toArray
  | [], cells, l, h => by
    simp only [fillL, Option.some.injEq] at h
    subst h
    rfl
  | p :: rest, cells, l, h => by
    simp only [fillL] at h
    split at h
    · cases h
    · rename_i q hq
      split at h
      · rename_i hb
        simp only [Bool.and_eq_true] at hb
        obtain ⟨h1, h2⟩ := hb
        have h1 := Nat.eq_of_beq_eq_true h1
        have h2 := Nat.le_of_ble_eq_true h2
        obtain ⟨i, v⟩ := p
        obtain ⟨off, n⟩ := q
        simp only at hq h1 h2 h
        have hs : v.cells.size = n := by simpa using h1
        have ho : ¬ (off + v.cells.size > cells.toArray.size) := by simp at h2 ⊢; omega
        have hf := putL_fold v.cells.toList cells off 0
        have hz : (v.cells.zipIdx.foldl (fun (cs : Array Value) (x : Value × Nat) => cs.setIfInBounds (off + x.2) x.1) cells.toArray) = (putL cells off v.cells.toList).toArray := by
          rw [← Array.foldl_toList, Array.toList_zipIdx]
          simpa using hf
        unfold Instr.fill
        simp only [hq]
        rw [if_neg (by simp only [hs, ne_eq, not_true_eq_false, Bool.or_eq_true, decide_eq_true_eq, false_or]; rw [← hs]; exact ho)]
        exact (congrArg (fun z => Instr.fill place z rest) hz).trans (fillL_sound rest _ l h)
      · cases h

theorem sizes_run {P : Program} {w : World} : ∀ (fs : List Field), sizesOk P fs = true →
    ∃ l, (fs.mapM (m := Sem) fun f => do pure (f.offset, ← sizeOf f.type)).run P w = .ok l w ∧ ∀ i, l[i]? = placeL P fs i
  | [], _ => ⟨[], rfl, fun i => by simp [placeL]⟩
  | f :: fs, h => by
    simp only [sizesOk] at h
    split at h
    · rename_i n hn
      obtain ⟨l, hl, hp⟩ := sizes_run (w := w) fs h
      refine ⟨(f.offset, n) :: l, ?_, fun i => ?_⟩
      · simp only [List.mapM_cons, Sem.run_bind, run_sizeOf? hn, Result.andThen_ok, Sem.run_pure, hl]
      · cases i with
        | zero => simp [placeL, hn]
        | succ i => simpa [placeL] using hp i
    · cases h

theorem buildV_sound {P : Program} {t : TypeId} {parts : List (Nat × Value)} {cs : List Value} (h : buildV P t parts = some cs) (w : World) :
    (Instr.build t parts.toArray).run P w = .ok (.agg cs.toArray) w := by
  unfold buildV at h
  split at h
  · rename_i fs i hu hi
    split at h
    · rename_i z hz hs
      obtain ⟨l, hl, hp⟩ := sizes_run (P := P) (w := w) fs.toList hs
      have hf := fillL_sound _ _ _ h
      have he : (fun i => l[i]?) = placeL P fs.toList := funext hp
      simp only [Instr.build, Sem.run_bind, zeroValue, typeInfo, run_program, Result.andThen_ok, hi, hz, Sem.run_pure, run_underlying hu, Array.mapM_eq_mapM_toList, Sem.run_map]
      have hl' : Sem.run P (fs.toList.mapM fun f => do pure (f.offset, ← sizeOf f.type)) w = .ok l w := hl
      erw [hl']
      simp only [Result.andThen_ok, List.getElem?_toArray]
      rw [he]
      have hf' : Instr.fill (placeL P fs.toList) z.cells parts = some cs.toArray := by simpa using hf
      simp only [hf', Sem.run_pure]
    · cases h
  · cases h

theorem rdOp_sound {P : Program} {E : List (Nat × TypeId)} {R : Rd} {G : Sem Next → Value → Prop} (hG : Good P R G) {ρ : Env} {o : Oper} {K : Value → Prop}
    (h : rdOp P E R ρ o.op o.type K) : ∃ v, G (execOp (ev ρ) o) v ∧ K v := by
  obtain ⟨dst, op, ty, pos, after, guard⟩ := o
  dsimp only at h
  have fall : ∀ (t : TypeId) (m : Sem Value), execOp (ev ρ) ⟨dst, op, ty, pos, after, guard⟩ = (do pure (.value (← m))) → (exTy P t fun v => R m v ∧ K v) → ∃ v, G (execOp (ev ρ) ⟨dst, op, ty, pos, after, guard⟩) v ∧ K v := fun t m he hx => by
    obtain ⟨v, hr, hk⟩ := exTy_ex hx
    exact ⟨v, he ▸ hG.rd m v hr, hk⟩
  have pur : ∀ (m : Sem Value) (v : Value), execOp (ev ρ) ⟨dst, op, ty, pos, after, guard⟩ = (do pure (.value (← m))) → (∀ w, m.run P w = .ok v w) → K v → ∃ v, G (execOp (ev ρ) ⟨dst, op, ty, pos, after, guard⟩) v ∧ K v := fun m v he hm hk =>
    ⟨v, hG.pure _ v (fun w => by rw [he]; simp [hm w]), hk⟩
  cases op with
  | move x => exact ⟨_, hG.pure _ _ (fun w => rfl), h⟩
  | assign x => exact ⟨_, hG.pure _ _ (fun w => rfl), h⟩
  | pick c a b =>
    simp only [rdOp] at h
    split at h
    · rename_i t ht
      rcases brc_of h with ⟨rfl, h⟩ | ⟨rfl, h⟩
      · exact ⟨_, hG.pure _ _ (fun w => by simp [execOp, ht, asBool]), h⟩
      · exact ⟨_, hG.pure _ _ (fun w => by simp [execOp, ht, asBool]), h⟩
    · exact h.elim
  | load t x =>
    simp only [rdOp] at h
    split at h
    · rename_i a ha
      exact fall t (loadVar t a) (by simp [execOp, ha, Instr.loadAt, Instr.sureAddr]) h
    · exact h.elim
  | nilCheck x =>
    simp only [rdOp] at h
    split at h
    · rename_i p hp
      obtain ⟨a, rfl, hk⟩ := optK_of h
      exact ⟨_, hG.pure _ _ (fun w => by simp [execOp, hp]), hk⟩
    · rename_i f a b hp
      exact ⟨_, hG.pure _ _ (fun w => by simp [execOp, hp]), h⟩
    · exact h.elim
  | binOp o t x y yt =>
    simp only [rdOp] at h
    rcases binV_sound (xo := x) (yo := y) h with h | ⟨v, hv, hk⟩
    · exact fall ty _ rfl h
    · exact pur _ v rfl hv hk
  | unOp o t x =>
    simp only [rdOp] at h
    split at h
    · rename_i b hb
      exact pur _ _ rfl (fun w => by rw [hb]; rfl) h
    · rename_i k n hb
      exact pur _ _ rfl (fun w => by rw [hb]; rfl) h
    · rename_i k n hb
      exact pur _ _ rfl (fun w => by rw [hb]; rfl) h
    · exact h.elim
  | fieldAddr s x f =>
    simp only [rdOp] at h
    split at h
    · rename_i a off ha hf
      exact pur _ _ rfl (fun w => by rw [ha]; exact fieldAt_run hf a w) h
    · exact h.elim
  | indexAddr t x i =>
    simp only [rdOp] at h
    split at h
    · rename_i e a len c k n hu hx hi
      split at h
      · rename_i size hs
        obtain ⟨hb, h⟩ := h
        obtain ⟨a, rfl, hk⟩ := optK_of h
        exact pur _ _ rfl (fun w => by rw [hx, hi]; exact indexAt_slice hu hs hb w) hk
      · exact h.elim
    · rename_i len e a k n hu hx hi
      split at h
      · rename_i size hs
        obtain ⟨hb, hk⟩ := h
        exact pur _ _ rfl (fun w => by rw [hx, hi]; exact indexAt_arr hu hs hb w) hk
      · exact h.elim
    · exact h.elim
  | extract x i =>
    simp only [rdOp] at h
    split at h
    · rename_i vs hvs
      split at h
      · rename_i v hv
        have hv' : vs[i]? = some v := by simpa using hv
        exact pur _ _ rfl (fun w => by rw [hvs]; simp [Instr.extract, hv']) h
      · exact h.elim
    · exact h.elim
  | makeFunc f a b =>
    simp only [rdOp, evs_arr] at h
    exact pur _ _ rfl (fun w => rfl) h
  | slice t x lo hi mx =>
    simp only [rdOp] at h
    split at h
    · rename_i e a len cap hu hx
      split at h
      · rename_i size hs
        obtain ⟨l, hh, hr, hk⟩ := sliceBounds2 (P := P) (b := true) h
        refine pur _ _ rfl (fun w => ?_) hk
        rw [hx]
        simp [Instr.sliceAt, Instr.slice, run_underlying hu, hr, run_sizeOf? hs, cutAt]
      · rename_i size m hs
        split at h
        · obtain ⟨m', l, hh, hr, hk⟩ := sliceBounds3 (P := P) h
          refine pur _ _ rfl (fun w => ?_) hk
          rw [hx]
          simp [Instr.sliceAt, Instr.slice, run_underlying hu, hr, run_sizeOf? hs, cutAt]
        · exact h.elim
      · exact h.elim
    · rename_i s hu hx
      split at h
      · obtain ⟨l, hh, hr, hk⟩ := sliceBounds2 (P := P) (b := false) h
        refine pur _ _ rfl (fun w => ?_) hk
        rw [hx]
        simp [Instr.sliceAt, Instr.slice, run_underlying hu, hr]
      · exact h.elim
    · exact h.elim
  | convert s d x =>
    simp only [rdOp] at h
    split at h
    · rename_i k0 k k1 n hs hd hx
      exact pur _ _ rfl (fun w => by rw [hx]; simp [convert, run_underlying hs, run_underlying hd, Conv.intToInt]) h
    · rename_i z hs hd hx
      exact pur _ _ rfl (fun w => by rw [hx]; simp [convert, run_underlying hs, run_underlying hd]) h
    · exact fall _ _ rfl h
  | lookup t x i ok =>
    simp only [rdOp] at h
    cases ok with
    | false => exact fall _ _ rfl h
    | true =>
      obtain ⟨v, b, hr, hk⟩ := exTy_ex h
      exact ⟨_, hG.rd (Instr.lookup t (ev ρ x) (ev ρ i) true) _ hr, hk⟩
  | entry x =>
    simp only [rdOp] at h
    split at h
    · split at h
      · split at h
        · obtain ⟨u, h⟩ := exTy_ex h
          obtain ⟨v, hr, hk⟩ := exTy_ex h
          exact ⟨_, hG.rd (Instr.entry _) _ hr, hk⟩
        · exact h.elim
      · exact h.elim
    · exact h.elim
  | field t x f => exact fall _ _ rfl h
  | index t x i => exact fall _ _ rfl h
  | build t parts =>
    simp only [rdOp] at h
    have he : execOp (ev ρ) ⟨dst, .build t parts, ty, pos, after, guard⟩ = (do pure (.value (← Instr.build t (evp ρ parts).toArray))) := by rw [evp_arr]; rfl
    split at h
    · rename_i cs hcs
      exact pur _ _ he (buildV_sound hcs) h
    · exact fall _ _ he h
  | makeInterface t x => exact fall _ _ rfl h
  | typeAssert x a b ok =>
    cases ok with
    | false => exact fall _ _ rfl h
    | true => exact h.elim
  | call c =>
    obtain ⟨callee, args, ats⟩ := c
    cases callee with
    | builtin b =>
      cases b with
      | len =>
        simp only [rdOp] at h
        split at h
        · rename_i a n c t hvs hts
          split at h
          · rename_i e hu
            refine pur (Builtin.len_ ats ty (args.map (ev ρ))) _ rfl (fun w => ?_) h
            rw [← evs_arr, hvs]
            have h0 : ats = #[t] := by rw [← Array.toArray_toList (xs := ats), hts]
            rw [h0]
            simp [Builtin.len_, run_underlying hu, goInt]
          · exact h.elim
        · rename_i s t hvs hts
          split at h
          · rename_i hu
            refine pur (Builtin.len_ ats ty (args.map (ev ρ))) _ rfl (fun w => ?_) h
            rw [← evs_arr, hvs]
            have h0 : ats = #[t] := by rw [← Array.toArray_toList (xs := ats), hts]
            rw [h0]
            simp [Builtin.len_, run_underlying hu, goInt]
          · exact h.elim
        · rw [evs_arr] at h; exact fall _ _ rfl h
      | cap => simp only [rdOp, evs_arr] at h; exact fall _ _ rfl h
      | min =>
        simp only [rdOp] at h
        rcases minMax_sound (P := P) h with h | ⟨v, hv, hk⟩
        · rw [evs_arr] at h; exact fall _ _ rfl h
        · exact pur (Builtin.min_ ats ty (args.map (ev ρ))) v rfl (fun w => by simpa [evs_arr] using hv ats ty w) hk
      | max =>
        simp only [rdOp] at h
        rcases minMax_sound (P := P) h with h | ⟨v, hv, hk⟩
        · rw [evs_arr] at h; exact fall _ _ rfl h
        · exact pur (Builtin.max_ ats ty (args.map (ev ρ))) v rfl (fun w => by simpa [evs_arr] using hv ats ty w) hk
      | _ => exact h.elim
    | _ => exact h.elim
  | _ => exact h.elim

end Go.Proofs.Ytonjaaljnjjjcaa
