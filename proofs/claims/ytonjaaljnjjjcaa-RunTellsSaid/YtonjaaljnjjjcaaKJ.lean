/- RunTells. Conditions: as each lemma says. -/
import Derived.Test.YtonjaaljnjjjcaaKI
set_option linter.unusedVariables false
set_option linter.unusedSimpArgs false
namespace Go.Proofs.Ytonjaaljnjjjcaa
open Go Go.RowKit

/-- A cell of its own. -/
def c1C (a : Nat) (T : TypeId) (v : Value) : Chunk := (a, .cells [v].toArray T (0, 0))
theorem Sep.get1 {E w : World} {L : List Chunk} {a : Nat} {T : TypeId} {v : Value} (hS : Sep E w L) (h : c1C a T v ∈ L) {t : TypeId} (ht : oneT Pr t = true) : At Pr w (loadVar t ⟨a, 0, none⟩) v := hS.load (o := 0) h rfl ht
theorem Sep.set1 {E w : World} {L : List Chunk} {a : Nat} {T t : TypeId} {v : Value} (hS : Sep E w (c1C a T v :: L)) (v' : Value) (hn : sizeOf? Pr t = some 1) (h1 : v'.cells = #[v']) (ho : v'.oneCell' = true) : ∃ w', Sem.run Pr (Instr.storeAt t (.pointer (some ⟨a, 0, none⟩)) v') w = .ok () w' ∧ Sep E w' (c1C a T v' :: L) := by
  obtain ⟨w1, e1, hS1⟩ := Sep.store (o := 0) (n := 1) (v := v') (t := t) hS hn (by rw [h1]; rfl) (by simp) (by rw [h1]; simpa using ho)
  rw [h1] at hS1
  exact ⟨w1, e1, hS1⟩

theorem u48 : Pr.underlying 48 = some (.func #[147] #[] false) := by kernel_rfl
theorem at_nilfunc {w : World} {x y : Operand} (f : Fn) (a b : Array Value) : At Pr w (do eqGuard .eql 48 x y (.func f a b) .nilFunc; binOp .eql 48 (.func f a b) .nilFunc) (.bool false) := by
  unfold At
  have h : ∀ d, (Op.equalIn (d + 1) 48 (.func f a b) .nilFunc).run Pr w = .ok false w := fun d => by
    simp [Op.equalIn, run_underlying u48]
  have h' : (Op.equal 48 (.func f a b) .nilFunc).run Pr w = .ok false w := h 9999
  simp [eqGuard, binOp, h']

theorem s55 : structT Pr 55 = true := by kernel_rfl
theorem z55 : (Pr.info? 55).bind (·.zero) = some (.agg #[.slice none 0 0, .int .i64 0]) := by kernel_rfl

/-- A record of a list, whole and by its parts. -/
theorem OwnR.at_ {s : SV} {rs : List (SV × Int)} {ls : List Rec1} {C I : List Chunk} (h : OwnR s rs ls C I) {i : Nat} (hi : i < ls.length) :
    ∃ (a : Addr) (x : SV), s.a = some a ∧ RdB I x ls[i].1 ∧ (∀ {E w : World} {L : List Chunk}, Sep E w L → (∀ c ∈ C, c ∈ L) → At Pr w (loadVar 55 (a.add (i * 2))) (.agg #[.slice x.a x.len x.cap, .int .i64 ls[i].2])) ∧
      (∀ {E w : World} {L : List Chunk}, Sep E w L → (∀ c ∈ C, c ∈ L) → At Pr w (loadVar 27 ((a.add (i * 2)).add 1)) (.int .i64 ls[i].2)) ∧ (∀ {E w : World} {L : List Chunk}, Sep E w L → (∀ c ∈ C, c ∈ L) → At Pr w (loadVar 26 ((a.add (i * 2)).add 0)) (.slice x.a x.len x.cap)) := by
  have hi' : i < rs.length := by rw [h.len]; exact hi
  obtain ⟨h1, h2⟩ := recV_at rs i rs[i] (by simp)
  obtain ⟨h3, h4⟩ := h.rds i rs[i] ls[i] (by simp) (by simp)
  have hsz := h.size
  have hr := h.own.rds
  obtain ⟨a, ha, hat⟩ := hr.cellU h1
  obtain ⟨a', ha', hat'⟩ := hr.cellU h2
  have haa : a' = a := Option.some.inj (ha'.symm.trans ha)
  subst haa
  refine ⟨a', rs[i].1, ha, h4, fun {E w L} hS hC => ?_, fun hS hC => ?_, fun hS hC => ?_⟩
  · obtain ⟨b, hb, hld⟩ := hr.idxS (i := i) (by omega) (by decide) hS hC s55 (by kernel_rfl) (t := 55)
    have hbb : b = a' := Option.some.inj (hb.symm.trans ha)
    subst hbb
    have e : ((rs.flatMap recV).drop (i * 2)).take 2 = [slV rs[i].1, .int .i64 ls[i].2] := by
      have hl : (rs.flatMap recV).length = rs.length * 2 := recV_len rs
      rw [List.drop_eq_getElem_cons (by omega), List.drop_eq_getElem_cons (by omega)]
      rw [List.getElem?_eq_getElem (by omega)] at h1 h2
      rw [Option.some.inj h1, Option.some.inj h2, h3]
      rfl
    rw [e] at hld
    exact hld
  · rw [add_add, ← h3]
    exact hat' (by kernel_rfl) hS hC
  · rw [add_add, Nat.add_zero]
    exact hat (by kernel_rfl) hS hC

def lastE (recs : List Rec1) : Int := if h : 0 < recs.length then recs[recs.length - 1].2 else 0

/-- RunTells. -/
theorem k6 {E w : World} {L : List Chunk} {s : SV} {b : List UInt8} (hS : Sep E w L) (hr : RdB L s b) (hb : b.length ≤ 9223372036854775807) :
    Calls Pr 6 #[.slice s.a s.len s.cap] w fun e w' => e = .returned (.bool true) ∧ ∃ C, Sep E w' (C ++ L) := by
  refine call6 ?_
  unfold ir6
  obtain ⟨a1, w1, h1, hS1⟩ := hS.newB
  refine ⟨_, w1, h1, (k20 hS1).mono ?_⟩
  rintro _ w2 ⟨rfl, C2, hS2⟩
  have hsz := hr.size
  have hcap := hr.cap
  have hm : (if (1000 : Int) < ((s.len : Nat) : Int) then (1000 : Int) else ((s.len : Nat) : Int)) = ((min 1000 b.length : Nat) : Int) := by split <;> omega
  rw [hm]
  refine ⟨true, rfl, ⟨by omega, by omega⟩, ?_⟩
  have hc0 := hr.cut (l := 0) (h := min 1000 b.length) (m := s.cap) (by omega) (by omega) (by omega) (Nat.le_refl _)
  have e0 : (b.drop 0).take (min 1000 b.length - 0) = b.take 1000 := by
    rw [List.drop_zero, Nat.sub_zero]
    rcases Nat.le_total 1000 b.length with h | h
    · rw [Nat.min_eq_left h]
    · rw [Nat.min_eq_right h, List.take_length, List.take_of_length_le h]
  rw [e0] at hc0
  simp only [Int.toNat_natCast]
  generalize hx : (⟨cutAt s.a 0 s.cap 1, min 1000 b.length - 0, s.cap - 0⟩ : SV) = x at hc0
  have hx1 : cutAt s.a 0 s.cap 1 = x.a := by rw [← hx]
  have hx2 : min 1000 b.length - 0 = x.len := by rw [← hx]
  have hx3 : s.cap - 0 = x.cap := by rw [← hx]
  rw [hx1, hx2, hx3]
  have hlen : (b.take 1000).length ≤ 1000 := by simp; omega
  generalize hl : b.take 1000 = l at hc0 hlen
  have hxl := hc0.size
  obtain ⟨a2, w3, h3, hS3⟩ := hS2.alloc (t := 26) (z := .slice none 0 0) (by kernel_rfl)
  have hS3 : Sep E w3 (c1C a2 26 (.slice none 0 0) :: (C2 ++ (bC a1 false :: L))) := hS3
  refine ⟨_, w3, h3, ?_⟩
  obtain ⟨w4, h4, hS4⟩ := hS3.set1 (t := 26) (slV x) (by kernel_rfl) rfl rfl
  refine ⟨w4, h4, x, hS4.get1 List.mem_cons_self (by kernel_rfl), ?_⟩
  refine (k31 hS4 (hc0.mono fun c hc => by simp [hc]) (by omega)).mono ?_
  have hrl := recsR_len l none
  rintro _ w5 ⟨s2, rs, C5, I5, G5, rfl, ho, hS5⟩
  refine ⟨s2, rfl, ?_⟩
  generalize hrecs : recsR ⟨l, none, false⟩ = recs at *
  obtain ⟨a3, w6, h6, hS6⟩ := hS5.alloc (t := 52) (z := .slice none 0 0) (by kernel_rfl)
  have hS6 : Sep E w6 (c1C a3 52 (.slice none 0 0) :: (C5 ++ (I5 ++ (G5 ++ (c1C a2 26 (slV x) :: (C2 ++ (bC a1 false :: L))))))) := hS6
  refine ⟨_, w6, h6, x, hS6.get1 (T := 26) (by simp) (by kernel_rfl), ?_⟩
  refine call29 ?_
  unfold ir29
  obtain ⟨c, w7, h7, hS7⟩ := hS6.newVar (t := 26) (v := slV x)
  refine ⟨_, w7, h7, ⟨.func 89, #[], #[.pointer (some ⟨c, 0, none⟩)]⟩, rfl, false, at_nilfunc _ _ _, brc_false rfl ?_⟩
  have hS7 : Sep E w7 (c1C c 26 (slV x) :: c1C a3 52 (slV SV.nil) :: (C5 ++ (I5 ++ (G5 ++ (c1C a2 26 (slV x) :: (C2 ++ (bC a1 false :: L))))))) := hS7
  have hS7' : Sep E w7 ((c1C a3 52 (slV SV.nil) :: bC a1 false :: c1C a2 26 (slV x) :: []) ++ (L ++ (c1C c 26 (slV x) :: (C5 ++ (I5 ++ (G5 ++ C2)))))) := hS7.weak (by intro f; simp only [ms_append, ms_cons, ms_nil]; omega)
  refine rangeS (by kernel_rfl) hS7' fun X l1 D w14 hS14 hX => ?_
  let J : YInv Rec1 := {
    on := fun pre U I => ∃ (so : SV) (ss : List (SV × Int)) (Co G : List Chunk), U = loopC X l1 D .ready none :: defC D :: c1C a3 52 (slV so) :: bC a1 false :: c1C a2 26 (slV x) :: (Co ++ G) ∧ OwnR so ss pre Co I
    off := fun _ _ _ => False
    mono := fun hI h => by
      obtain ⟨so, ss, Co, G, h1, h2⟩ := h
      exact ⟨so, ss, Co, G, h1, h2.mono hI⟩
    mono' := fun _ h => h }
  have hy : Yields1 E l1 J (fun pre => pre <+: recsR ⟨l, none, false⟩) recEnc := by
    rintro pre ⟨xb, xe⟩ U I R w vs hp ⟨so, ss, Co, G, rfl, hown⟩ ⟨sx, hrx, rfl⟩ hSw
    rw [hrecs] at hp
    have hpl : pre.length + 1 ≤ recs.length := by
      have := hp.length_le
      simpa using this
    have hSw' : Sep E w (loopC X l1 D .ready none :: (defC D :: c1C a3 52 (slV so) :: bC a1 false :: c1C a2 26 (slV x) :: (Co ++ G ++ (I ++ R)))) := hSw
    refine yieldS (Pn := fun F' => ∃ (so' : SV) (ss' : List (SV × Int)) (Co' : List Chunk) (G' : List Chunk), F' = defC D :: c1C a3 52 (slV so') :: bC a1 false :: c1C a2 26 (slV x) :: (Co' ++ (G' ++ (I ++ R))) ∧ OwnR so' ss' (pre ++ [(xb, xe)]) Co' I) (Pt := fun _ => False) hSw' ?_ ?_ (fun _ _ h => h.elim)
    · refine hX sx xe w _ ?_
      obtain ⟨w2, hb2, hSb⟩ := hSw'.begin
      refine ⟨w2, hb2, ?_⟩
      have hso := hown.size
      refine ⟨so, hSb.get1 (T := 52) (by simp) (by kernel_rfl), ?_⟩
      have hSb' : Sep E w2 (Co ++ (loopC X l1 D .busy none :: defC D :: c1C a3 52 (slV so) :: bC a1 false :: c1C a2 26 (slV x) :: (G ++ (I ++ R)))) := hSb.weak (by intro f; simp only [ms_append, ms_cons, ms_nil]; omega)
      obtain ⟨s10, w3, e3, s11, w4, C', G', e4, ho4, hS4⟩ := hSb'.pushR hown hrx xe (by omega)
      refine ⟨s10, w3, e3, s11, w4, e4, ?_⟩
      have hS4' : Sep E w4 (c1C a3 52 (slV so) :: (C' ++ (G' ++ (loopC X l1 D .busy none :: defC D :: bC a1 false :: c1C a2 26 (slV x) :: (G ++ (I ++ R)))))) := hS4.weak (by intro f; simp only [ms_append, ms_cons, ms_nil]; omega)
      obtain ⟨w5, e5, hS5⟩ := hS4'.set1 (t := 52) (slV s11) (by kernel_rfl) rfl rfl
      refine ⟨w5, e5, s11, hS5.get1 List.mem_cons_self (by kernel_rfl), x, hS5.get1 (T := 26) (by simp) (by kernel_rfl), brc_false ?_ ?_⟩
      · have h11 := ho4.size
        rw [List.length_append, List.length_singleton] at h11
        rw [w64 (by omega) (by omega), h11]
        exact decide_eq_false (by omega)
      · exact ⟨_, ⟨s11, _, C', G' ++ G, rfl, ho4⟩, hS5.weak (by intro f; simp only [ms_append, ms_cons, ms_nil]; omega)⟩
    · rintro F' w4 ⟨so', ss', Co', G', rfl, ho'⟩ hS4
      exact ⟨loopC X l1 D .ready none :: defC D :: c1C a3 52 (slV so') :: bC a1 false :: c1C a2 26 (slV x) :: (Co' ++ G'), hS4.weak (by intro f; simp only [ms_append, ms_cons, ms_nil]; omega), .inl ⟨rfl, so', ss', Co', G', rfl, ho'⟩⟩
  have hS14' : Sep E w14 ((loopC X l1 D .ready none :: defC D :: c1C a3 52 (slV SV.nil) :: bC a1 false :: c1C a2 26 (slV x) :: ([] ++ [])) ++ (L ++ ((c, .cells [slV x].toArray 26 (0, 0)) :: (C5 ++ (I5 ++ (G5 ++ C2)))))) := hS14.weak (by
    intro f
    simp only [c1C, ms_append, ms_cons, ms_nil]
    omega)
  refine (k89 (J := J) (I := L) hS14' hc0 (by omega) ⟨SV.nil, [], [], [], rfl, OwnR.nil _⟩ hy).mono ?_
  rintro _ w15 ⟨rfl, U', I', R', hS15, ⟨Ci, hCi⟩, hj | ⟨pre, _, hj⟩⟩
  case inr => exact hj.elim
  obtain ⟨so, ss, Co, G, rfl, hown⟩ := hj
  rw [hrecs] at hown
  have hS15' : Sep E w15 (loopC X l1 D .ready none :: (defC D :: c1C a3 52 (slV so) :: bC a1 false :: c1C a2 26 (slV x) :: (Co ++ (I' ++ (C5 ++ (I5 ++ (G ++ ((c, .cells [slV x].toArray 26 (0, 0)) :: (R' ++ (G5 ++ C2))))))))) ) := hS15.weak (by intro f; simp only [ms_append, ms_cons, ms_nil]; omega)
  refine ⟨⟨_, rfl⟩, leave_nrm hS15' fun w16 hS16 => ?_⟩
  -- the disk
  have hLI : ∀ c ∈ L, c ∈ I' := fun c hc => by rw [hCi]; simp [hc]
  refine (k25 hS16 2000).mono ?_
  rintro _ w17 ⟨d, Dk, rfl, hD, hS17⟩
  refine ⟨_, rfl, brc_false rfl ?_⟩
  have hf0 : (MDisk.new 2000).Fit 0 := MDisk.fit_new 2000
  refine (k32 (M := MDisk.new 2000) hf0.left (Nat.le_trans hf0.changes (by omega)) hS17 hD ⟨#[120]⟩).mono ?_
  rw [show (MDisk.new 2000).create ⟨#[120]⟩ = (0, oneM 2000 ⟨#[120]⟩ []) from oneM_create 2000]
  rintro _ w18 ⟨D18, C18, rfl, hD18, hS18⟩
  refine ⟨_, rfl, brc_false rfl ⟨x, hS18.get1 (T := 26) (by simp) (by kernel_rfl), ?_⟩⟩
  have hf1 := oneM_fit 2000 ⟨#[120]⟩ []
  refine (k33 (M := oneM 2000 ⟨#[120]⟩ []) hf1.left hS18 hD18 (Nat.le_trans hf1.total (by decide)) (Nat.le_trans hf1.changes (by decide)) (fun c hc => by cases hc) ⟨#[120]⟩ (hc0.mono fun c hc => by simp [hLI c hc]) (by omega)).mono ?_
  rw [oneM_append (by decide) (by simp; omega), List.nil_append]
  rintro _ w19 ⟨D19, C19, rfl, hD19, hS19⟩
  have hso := hown.size
  have hs2 := ho.size
  refine ⟨_, rfl, brc_false rfl ⟨so, hS19.get1 (T := 52) (by simp) (by kernel_rfl), brc_false (by rw [hso, hs2]; simp) ?_⟩⟩
  have hf2 := oneM_fit 2000 ⟨#[120]⟩ l
  refine (k34 (M := oneM 2000 ⟨#[120]⟩ l) hf2.left hS19 hD19 (fun c hc => by
    rcases List.mem_append.1 hc with hc | hc
    · simp [hc]
    · cases hc) ⟨#[120]⟩ fun f hf => Nat.le_trans (hf2.files f hf) (by omega)).mono ?_
  rw [oneM_read]
  rintro _ w20 ⟨s20, C20, hr20, hD20, ⟨h, _⟩ | ⟨_, b20, rfl, hS20⟩⟩
  · exact absurd rfl h
  refine ⟨_, _, rfl, brc_false rfl (brc_false rfl ?_)⟩
  -- one by one
  have hrd0 : RdRep C20 s20 SV.nil false ⟨l, none, false⟩ := ⟨hr20, rfl, fun l hl => by cases hl⟩
  let B : List Chunk := bC a1 false :: c1C a3 52 (slV so) :: (Co ++ (I' ++ (C5 ++ (I5 ++ (defC D :: [])))))
  refine ⟨fun n σ w => ∃ (i : Nat) (r : MRd) (st tt : SV) (any : Bool) (Ir G : List Chunk), i ≤ recs.length ∧ n = recs.length - i ∧ σ = ((i : Int), ()) ∧ StR recs i r ∧ r.rest.length ≤ 1000 ∧ RdRep Ir st tt any r ∧ Sep E w (rChunk b20 st tt any r.bad :: (Ir ++ (G ++ B))), recs.length,
    ⟨0, ⟨l, none, false⟩, s20, SV.nil, false, C20, D19.chunks (oneM 2000 ⟨#[120]⟩ l) d ++ (C19 ++ (C18 ++ (loopC X l1 D .exhausted none :: c1C a2 26 (slV x) :: (G ++ ((c, .cells [slV x].toArray 26 (0, 0)) :: (R' ++ (G5 ++ C2))))))), Nat.zero_le _, rfl, rfl, ⟨Nat.zero_le _, (fun h => by cases h), fun _ => ⟨hrecs.symm, fun h => absurd h (Nat.lt_irrefl 0)⟩⟩, hlen, hrd0, ?_⟩, ?_⟩
  · exact hS20.weak (by
      intro f
      simp only [B, ms_append, ms_cons, ms_nil]
      omega)
  rintro n σ w21 ⟨i, r, st, tt, any, Ir, G21, hi, rfl, rfl, hst, hrl21, hrd, hS21⟩ _
  dsimp only
  refine brc_intro (fun h => ?_) (fun h => ?_)
  · have h : i < recs.length := by simp at h; omega
    refine ⟨⟨by omega, by omega⟩, ?_⟩
    obtain ⟨aw, xw, haw, hrw, hw1, _, _⟩ := ho.at_ h
    rw [haw]
    refine ⟨xw, recs[i].2, hw1 hS21 (fun c hc => by simp [B, hc]), ?_⟩
    obtain ⟨a5, w22, h22, hS22⟩ := hS21.alloc (t := 55) z55
    refine ⟨_, w22, h22, ?_⟩
    obtain ⟨w23, h23, hS23⟩ := hS22.store (o := 0) (n := 2) (v := .agg #[slV xw, .int .i64 recs[i].2]) (t := 55) (by kernel_rfl) rfl (by simp) (by simp [Value.cells, Value.oneCell'])
    refine ⟨w23, h23, ?_⟩
    have hS23' : Sep E w23 (rChunk b20 st tt any r.bad :: ((a5, .cells [slV xw, .int .i64 recs[i].2].toArray 55 (0, 0)) :: (Ir ++ (G21 ++ B)))) := Sep.weak (L := (a5, .cells [slV xw, .int .i64 recs[i].2].toArray 55 (0, 0)) :: rChunk b20 st tt any r.bad :: (Ir ++ (G21 ++ B))) hS23 (by intro f; simp only [ms_append, ms_cons, ms_nil]; omega)
    refine (k21 (I := Ir) hS23' hrd (fun c hc => by simp [hc]) (by omega)).mono ?_
    obtain ⟨q1, q2, q3, q4⟩ := hst.step h
    rintro _ w24 ⟨hh, st', tt', any', C24, rfl, hrh, hrd', hS24⟩
    refine ⟨hh, _, _, rfl, ?_⟩
    obtain ⟨a6, w25, h25, hS25⟩ := hS24.alloc (t := 34) z34
    refine ⟨_, w25, h25, ?_⟩
    obtain ⟨w26, h26, _, hS26⟩ := headSt (g := a6) (cs := [.slice none 0 0, .bool false]) hS25 rfl hh r.next.1.2.1
    refine ⟨w26, h26, ?_⟩
    have hS26 : Sep E w26 (gC a6 hh r.next.1.2.1 :: rChunk b20 st' tt' any' r.next.2.bad :: (C24 ++ ((a5, .cells [slV xw, .int .i64 recs[i].2].toArray 55 (0, 0)) :: (Ir ++ (G21 ++ B))))) := hS26
    generalize hLL : gC a6 hh r.next.1.2.1 :: rChunk b20 st' tt' any' r.next.2.bad :: (C24 ++ ((a5, .cells [slV xw, .int .i64 recs[i].2].toArray 55 (0, 0)) :: (Ir ++ (G21 ++ B)))) = LL at hS26
    have mB : ∀ c ∈ B, c ∈ LL := fun c hc => by rw [← hLL]; simp [hc]
    have mCo : ∀ c ∈ Co, c ∈ LL := fun c hc => mB c (by simp [B, hc])
    have mI' : ∀ c ∈ I', c ∈ LL := fun c hc => mB c (by simp [B, hc])
    have mI5 : ∀ c ∈ I5, c ∈ LL := fun c hc => mB c (by simp [B, hc])
    have mh : ∀ c ∈ C24 ++ Ir, c ∈ LL := fun c hc => by
      rw [← hLL]
      rcases List.mem_append.1 hc with hc | hc <;> simp [hc]
    have m6 : (a6, Obj.cells [slV hh, .bool r.next.1.2.1].toArray 34 (0, 0)) ∈ LL := by rw [← hLL]; simp [gC]
    have m5 : (a5, Obj.cells [slV xw, .int .i64 recs[i].2].toArray 55 (0, 0)) ∈ LL := by rw [← hLL]; simp
    have m3 : c1C a3 52 (slV so) ∈ LL := mB _ (by simp [B])
    obtain ⟨ag, xg, hag, hrg, _, hg2, hg3⟩ := hown.at_ h
    have e1 : Addr.add ⟨a5, 0, none⟩ 1 = ⟨a5, 1, none⟩ := rfl
    have e6 : Addr.add ⟨a6, 0, none⟩ 1 = ⟨a6, 1, none⟩ := rfl
    have hn5 : ∀ w, Sep E w LL → At Pr w (loadVar 27 (Addr.add ⟨a5, 0, none⟩ 1)) (.int .i64 recs[i].2) := fun w hw => hw.load (o := 1) m5 rfl (by kernel_rfl)
    have hs5 : ∀ w, Sep E w LL → At Pr w (loadVar 26 (Addr.add ⟨a5, 0, none⟩ 0)) (slV xw) := fun w hw => hw.load (o := 0) m5 rfl (by kernel_rfl)
    refine ⟨fun w => Sep E w LL, hS26.drew, so, fun w hw => hw.get1 m3 (by kernel_rfl), ⟨by omega, by omega⟩, ?_⟩
    rw [hag]
    refine ⟨recs[i].2, fun w hw => hg2 hw mCo, recs[i].2, fun w hw => hn5 w hw, brc_false (by simp) ?_⟩
    refine ⟨so, fun w hw => hw.get1 m3 (by kernel_rfl), ⟨by omega, by omega⟩, ?_⟩
    rw [hag]
    refine ⟨xg, fun w hw => hg3 hw mCo, _, fun w hw => hw.toStr hrg mI' (by kernel_rfl) (by kernel_rfl), xw, fun w hw => hs5 w hw, _, fun w hw => hw.toStr hrw mI5 (by kernel_rfl) (by kernel_rfl), ?_⟩
    rw [str_eq, q2]
    refine brc_false (by simp) ⟨recs[i].2, fun w hw => hn5 w hw, brc_false (by simp) ⟨r.next.1.2.1, fun w hw => hw.load (o := 1) m6 rfl (by kernel_rfl), recs[i].2, fun w hw => hn5 w hw, ?_⟩⟩
    rw [q3]
    refine brc_false (by simp) ⟨hh, fun w hw => hw.load (o := 0) m6 rfl (by kernel_rfl), _, fun w hw => hw.toStr hrh mh (by kernel_rfl) (by kernel_rfl), xw, fun w hw => hs5 w hw, _, fun w hw => hw.toStr hrw mI5 (by kernel_rfl) (by kernel_rfl), ?_⟩
    rw [str_eq, q1]
    refine brc_false (by simp) ⟨recs.length - (i + 1), by omega, i + 1, r.next.2, st', tt', any', C24 ++ Ir, gC a6 hh r.next.1.2.1 :: (a5, .cells [slV xw, .int .i64 recs[i].2].toArray 55 (0, 0)) :: G21, by omega, rfl, by rw [w64 (by omega) (by omega)]; rfl, q4, Nat.le_trans r.next_le hrl21, hrd', hS26.drew.weak (by
      rw [← hLL]
      intro f
      simp only [ms_append, ms_cons, ms_nil]
      omega)⟩
  · have h : i = recs.length := by simp at h; omega
    subst h
    obtain ⟨q1, q2, q3, q4⟩ := hst.last
    -- the last one
    have fin : ∀ (w22 : World) (hh st' tt' : SV) (any' : Bool) (C24 : List Chunk), RdB (C24 ++ Ir) hh r.next.1.1 → Sep E w22 (rChunk b20 st' tt' any' r.next.2.bad :: (C24 ++ (Ir ++ (G21 ++ B)))) → ∀ n11 : Int, r.next.1.2.2 = n11 →
        ∃ (a10 : Addr) (w49 : World), Sem.run Pr (Instr.alloc 34 true (.tuple #[])) w22 = .ok (.pointer (some a10)) w49 ∧ ∃ (w50 : World), Sem.run Pr (Instr.storeAt 34 (.pointer (some a10)) (.agg #[(.slice hh.a hh.len hh.cap), (.bool r.next.1.2.1)])) w49 = .ok () w50 ∧
          brc true (∃ (b18 : Bool), At Pr w50 (loadVar 4 (Addr.add a10 1)) (.bool b18) ∧ brc (!b18) (∃ (s21 : SV), At Pr w50 (loadVar 26 (Addr.add a10 0)) (.slice s21.a s21.len s21.cap) ∧ brc (((s21.len : Nat) : Int) == (0 : Int))
            (∃ (w51 : World), Sem.run Pr (Instr.storeAt 4 (.pointer (some ⟨a1, 0, none⟩)) (.bool (r.next.1.2.2 == n11))) w50 = .ok () w51 ∧ shutV D w51 fun w52 => ∃ (b19 : Bool), At Pr w52 (loadVar 4 ⟨a1, 0, none⟩) (.bool b19) ∧ (Ending.returned (.bool b19) = .returned (.bool true) ∧ ∃ C, Sep E w52 (C ++ L)))
            (∃ (w53 : World), Sem.run Pr (Instr.storeAt 4 (.pointer (some ⟨a1, 0, none⟩)) (.bool false)) w50 = .ok () w53 ∧ shutV D w53 fun w54 => ∃ (b20 : Bool), At Pr w54 (loadVar 4 ⟨a1, 0, none⟩) (.bool b20) ∧ (Ending.returned (.bool b20) = .returned (.bool true) ∧ ∃ C, Sep E w54 (C ++ L))))
            (∃ (w55 : World), Sem.run Pr (Instr.storeAt 4 (.pointer (some ⟨a1, 0, none⟩)) (.bool false)) w50 = .ok () w55 ∧ shutV D w55 fun w56 => ∃ (b21 : Bool), At Pr w56 (loadVar 4 ⟨a1, 0, none⟩) (.bool b21) ∧ (Ending.returned (.bool b21) = .returned (.bool true) ∧ ∃ C, Sep E w56 (C ++ L))))
            (∃ (w57 : World), Sem.run Pr (Instr.storeAt 4 (.pointer (some ⟨a1, 0, none⟩)) (.bool false)) w50 = .ok () w57 ∧ shutV D w57 fun w58 => ∃ (b22 : Bool), At Pr w58 (loadVar 4 ⟨a1, 0, none⟩) (.bool b22) ∧ (Ending.returned (.bool b22) = .returned (.bool true) ∧ ∃ C, Sep E w58 (C ++ L))) := by
      intro w22 hh st' tt' any' C24 hrh hS22 n11 hn
      obtain ⟨a6, w25, h25, hS25⟩ := hS22.alloc (t := 34) z34
      refine ⟨_, w25, h25, ?_⟩
      obtain ⟨w26, h26, _, hS26⟩ := headSt (g := a6) (cs := [.slice none 0 0, .bool false]) hS25 rfl hh r.next.1.2.1
      have hz := hrh.size
      rw [q1] at hz
      refine ⟨w26, h26, brc_true rfl ⟨r.next.1.2.1, hS26.load (b := a6) (o := 1) List.mem_cons_self rfl (by kernel_rfl), brc_true (by rw [q2]; rfl) ⟨hh, hS26.load (b := a6) (o := 0) List.mem_cons_self rfl (by kernel_rfl), brc_true (by rw [hz]; rfl) ?_⟩⟩⟩
      have hS26' : Sep E w26 (bC a1 false :: (defC D :: L)) := hS26.weak (by
        intro f
        simp only [B, hCi, ms_append, ms_cons, ms_nil]
        omega)
      rw [hn]
      have hbt : (n11 == n11) = true := by simp
      rw [hbt]
      obtain ⟨w27, h27, hS27⟩ := hS26'.setB true
      refine ⟨w27, h27, shutS (L := bC a1 true :: L) (hS27.weak (by intro f; simp only [ms_append, ms_cons, ms_nil]; omega)) fun w28 hS28 => ?_⟩
      exact ⟨true, hS28.getB (by simp), rfl, [(D, .deferred none), bC a1 true], hS28⟩
    refine brc_intro (fun h0 => ?_) (fun h0 => ?_)
    · have h0 : 0 < recs.length := by simp at h0; omega
      have hw : IntKind.wrap .i64 (((s2.len : Nat) : Int) - 1) = ((recs.length - 1 : Nat) : Int) := by rw [hs2, w64 (by omega) (by omega)]; omega
      rw [hw]
      refine ⟨⟨by omega, by omega⟩, ?_⟩
      obtain ⟨aw, xw, haw, hrw, _, hw2, _⟩ := ho.at_ (i := recs.length - 1) (by omega)
      rw [haw]
      refine ⟨_, by simpa using hw2 hS21 (fun c hc => by simp [B, hc]), ?_⟩
      refine (k21 (I := Ir) hS21 hrd (fun c hc => by simp [hc]) (by omega)).mono ?_
      rintro _ w24 ⟨hh, st', tt', any', C24, rfl, hrh, hrd', hS24⟩
      exact ⟨hh, _, _, rfl, fin w24 hh st' tt' any' C24 hrh hS24 _ (q3 h0)⟩
    · have h0 : recs.length = 0 := by simp at h0; omega
      refine (k21 (I := Ir) hS21 hrd (fun c hc => by simp [hc]) (by omega)).mono ?_
      rintro _ w24 ⟨hh, st', tt', any', C24, rfl, hrh, hrd', hS24⟩
      exact ⟨hh, _, _, rfl, fin w24 hh st' tt' any' C24 hrh hS24 0 (q4 h0)⟩

end Go.Proofs.Ytonjaaljnjjjcaa
