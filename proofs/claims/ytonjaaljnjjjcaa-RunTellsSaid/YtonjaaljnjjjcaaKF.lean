/- RunBack. Conditions: as each lemma says. -/
import Derived.Test.YtonjaaljnjjjcaaKE
import Derived.Test.YtonjaaljnjjjcaaI3
import Derived.Test.YtonjaaljnjjjcaaR4
set_option linter.unusedVariables false
set_option linter.unusedSimpArgs false
namespace Go.Proofs.Ytonjaaljnjjjcaa
open Go Go.RowKit

def bC (a : Nat) (b : Bool) : Chunk := (a, .cells [.bool b].toArray 4 (0, 0))
def lC (a : Nat) (s : SV) : Chunk := (a, .cells [slV s].toArray 22 (0, 0))

/-- A result's cell, stored. -/
theorem Sep.setB {E w : World} {L : List Chunk} {a : Nat} {b : Bool} (hS : Sep E w (bC a b :: L)) (b' : Bool) : ∃ w', Sem.run Pr (Instr.storeAt 4 (.pointer (some ⟨a, 0, none⟩)) (.bool b')) w = .ok () w' ∧ Sep E w' (bC a b' :: L) := by
  obtain ⟨w1, h1, hS1⟩ := Sep.store (o := 0) (n := 1) (v := .bool b') (t := 4) hS (by kernel_rfl) rfl (by simp) (by simp [Value.cells, Value.oneCell'])
  exact ⟨w1, h1, hS1⟩
theorem Sep.getB {E w : World} {L : List Chunk} {a : Nat} {b : Bool} (hS : Sep E w L) (h : bC a b ∈ L) : At Pr w (loadVar 4 ⟨a, 0, none⟩) (.bool b) := hS.load (o := 0) h rfl (by kernel_rfl)
theorem Sep.setL {E w : World} {L : List Chunk} {a : Nat} {s : SV} (hS : Sep E w (lC a s :: L)) (s' : SV) : ∃ w', Sem.run Pr (Instr.storeAt 22 (.pointer (some ⟨a, 0, none⟩)) (.slice s'.a s'.len s'.cap)) w = .ok () w' ∧ Sep E w' (lC a s' :: L) := by
  obtain ⟨w1, h1, hS1⟩ := Sep.store (o := 0) (n := 1) (v := slV s') (t := 22) hS (by kernel_rfl) rfl (by simp) (by simp [Value.cells, Value.oneCell'])
  exact ⟨w1, h1, hS1⟩
theorem Sep.getL {E w : World} {L : List Chunk} {a : Nat} {s : SV} (hS : Sep E w L) (h : lC a s ∈ L) : At Pr w (loadVar 22 ⟨a, 0, none⟩) (.slice s.a s.len s.cap) := hS.load (o := 0) h rfl (by kernel_rfl)
theorem Sep.newB {E w : World} {L : List Chunk} (hS : Sep E w L) : ∃ a w', Sem.run Pr (Instr.alloc 4 true (.tuple #[])) w = .ok (.pointer (some ⟨a, 0, none⟩)) w' ∧ Sep E w' (bC a false :: L) := by
  obtain ⟨a, w1, h1, hS1⟩ := hS.alloc (t := 4) (z := .bool false) (by kernel_rfl)
  exact ⟨a, w1, h1, hS1⟩
theorem Sep.newL {E w : World} {L : List Chunk} (hS : Sep E w L) : ∃ a w', Sem.run Pr (Instr.alloc 22 true (.tuple #[])) w = .ok (.pointer (some ⟨a, 0, none⟩)) w' ∧ Sep E w' (lC a SV.nil :: L) := by
  obtain ⟨a, w1, h1, hS1⟩ := hS.alloc (t := 22) (z := .slice none 0 0) (by kernel_rfl)
  exact ⟨a, w1, h1, hS1⟩

def runName : ByteArray := ⟨#[114, 117, 110]⟩

theorem prefix_map {l : List (List UInt8)} {pre : List Rec1} {x : Rec1} (h : pre ++ [x] <+: l.map fun b => (b, (0 : Int))) : x.2 = 0 ∧ pre.length < l.length := by
  obtain ⟨t, ht⟩ := h
  constructor
  · have : x ∈ l.map fun b => (b, (0 : Int)) := by rw [← ht]; simp
    obtain ⟨b, _, rfl⟩ := List.mem_map.1 this
    rfl
  · have := congrArg List.length ht
    simp at this
    omega

/-- RunBack. -/
theorem k5 {E w : World} {L : List Chunk} {s : SV} {ls : List (List UInt8)} (hS : Sep E w L) (hr : RdL L s ls) (hb : ls.length ≤ 9223372036854775807) :
    Calls Pr 5 #[.slice s.a s.len s.cap] w fun e w' => e = .returned (.bool true) ∧ ∃ C, Sep E w' (C ++ L) := by
  refine call5 ?_
  unfold ir5
  obtain ⟨a1, w1, h1, hS1⟩ := hS.newB
  refine ⟨_, w1, h1, (k20 hS1).mono ?_⟩
  rintro _ w2 ⟨rfl, C2, hS2⟩
  refine ⟨true, rfl, (k25 hS2 10000).mono ?_⟩
  rintro _ w3 ⟨d, D, rfl, hD, hS3⟩
  refine ⟨_, rfl, (k26 (I := L) hS3 hr (fun c hc => by simp [hc]) hb).mono ?_⟩
  rintro _ w4 ⟨s1, ss1, C4, G4, rfl, ho, hS4⟩
  refine ⟨s1, rfl, ?_⟩
  have h64 := riseL_64 ls
  have hris := riseL_rising ls
  have hlen := riseL_len ls
  have hrl : (runL (riseL ls)).length ≤ 5000 * (riseL ls).length := runL_len _ fun l hl => by have := h64 l hl; omega
  have hrl72 : ∀ k, (runL ((riseL ls).take k)).length ≤ 72 * ((riseL ls).take k).length := fun k => by
    have key : ∀ m : List (List UInt8), (∀ x ∈ m, x.length ≤ 64) → (runL m).length ≤ 72 * m.length := by
      intro m
      induction m with
      | nil => simp [runL]
      | cons x m ih =>
        intro h
        have h1 := ih fun y hy => h y (List.mem_cons_of_mem _ hy)
        have h2 := h x List.mem_cons_self
        rw [runL_cons, List.length_append, frameL_len, List.length_cons]
        omega
    exact key _ fun x hx => h64 x (List.mem_of_mem_take hx)
  generalize hin : riseL ls = ins at *
  obtain ⟨a2, w5, h5, hS5⟩ := hS4.newL
  refine ⟨_, w5, h5, ?_⟩
  obtain ⟨w6, h6, hS6⟩ := hS5.setL s1
  refine ⟨w6, h6, ?_⟩
  -- what stays below: the cells, what rises, the argument
  have hS6' : Sep E w6 (D.chunks (MDisk.new 10000) d ++ (lC a2 s1 :: (C4 ++ (G4 ++ (C2 ++ (bC a1 false :: L)))))) := hS6.weak (by intro f; simp only [ms_append, ms_cons, ms_nil]; omega)
  have hrdl : RdL (C4 ++ L) s1 ins := ho.rdl
  refine (k27 (M := MDisk.new 10000) ((MDisk.fit_new 10000).mono (by omega)) hS6' hD).mono ?_
  rintro _ w7 ⟨D7, C7, hD7, h7⟩
  rw [show startM (MDisk.new 10000) = (0, wayM 10000 []) from start_new 10000] at hD7 h7
  rcases h7 with ⟨h, _⟩ | ⟨_, b, rfl, hS7⟩
  · exact absurd rfl h
  refine ⟨_, _, rfl, brc_false rfl (brc_false rfl ?_)⟩
  refine ⟨s1, hS7.getL (by simp), ?_⟩
  let B : List Chunk := lC a2 s1 :: (C4 ++ (G4 ++ (C2 ++ (bC a1 false :: L))))
  have hCB : ∀ c ∈ C4 ++ L, c ∈ B := fun c hc => by
    rcases List.mem_append.1 hc with hc | hc <;> simp [B, hc]
  refine ⟨fun n σ w => ∃ (k : Nat) (D' : DS) (sl : SV) (any : Bool) (I' C : List Chunk), k ≤ ins.length ∧ n = ins.length - k ∧ σ = ((k : Int), ()) ∧ DRep D' (wayM 10000 (runL (ins.take k))) I' ∧ OrdRep I' sl any (if k = 0 then none else ins[k - 1]?) ∧ (∀ c ∈ I', c ∈ C) ∧ Sep E w (wChunk b d sl any k :: (D'.chunks (wayM 10000 (runL (ins.take k))) d ++ (C ++ B))), ins.length,
    ⟨0, D7, SV.nil, false, [], C7, Nat.zero_le _, rfl, rfl, hD7, ⟨rfl, (fun l hl => by cases hl)⟩, (fun c hc => by cases hc), hS7⟩, ?_⟩
  rintro n σ w8 ⟨k, D', sl, any, I', C, hk, rfl, rfl, hD8, hord, hIC, hS8⟩ _
  dsimp only
  have hsz := hrdl.size
  refine brc_intro (fun h => ?_) (fun h => ?_)
  · have h : k < ins.length := by simp at h; omega
    obtain ⟨a, x, ha, hrx, hat⟩ := hrdl.idxU h
    refine ⟨⟨by omega, by omega⟩, ?_⟩
    rw [ha]
    refine ⟨x, by simpa using hat hS8 (fun c hc => by simp [hCB c hc]), ?_⟩
    have hx64 : ins[k].length ≤ 64 := h64 _ (List.getElem_mem h)
    have hro : rises (if k = 0 then none else ins[k - 1]?) ins[k] = true := by
      by_cases hk0 : k = 0
      · rw [if_pos hk0]; rfl
      · rw [if_neg hk0, List.getElem?_eq_getElem (by omega), rises_some]
        exact List.pairwise_iff_getElem.1 hris (k - 1) k (by omega) h (by omega)
    have hl72 := hrl72 k
    rw [List.length_take] at hl72
    have hadd := wayM_add (room := 10000) (ls := ins.take k) hx64 hro (by omega)
    have htk : ins.take k ++ [ins[k]] = ins.take (k + 1) := by rw [List.take_add_one, List.getElem?_eq_getElem h]; rfl
    rw [htk] at hadd
    refine (k22 (M := wayM 10000 (runL (ins.take k))) (I := I') (o := if k = 0 then none else ins[k - 1]?) (m := ins[k]) ((wayM_fit _ _).mono (by omega)) hS8 hD8 (fun c hc => by simp [hIC c hc]) hord (hrx.mono fun c hc => List.mem_append_right _ (hCB c hc)) (by omega) (by omega)).mono ?_
    rw [hadd]
    rintro _ w9 ⟨D9, C9, s9, any9, rfl, hD9, hord9, hS9⟩
    refine ⟨_, rfl, brc_false rfl ⟨ins.length - (k + 1), by omega, k + 1, D9, s9, any9, C9 ++ I', C9 ++ C, by omega, rfl, by rw [w64 (by omega) (by omega)]; rfl, hD9, ?_, fun c hc => ?_, ?_⟩⟩
    · rw [if_neg (by omega), Nat.add_sub_cancel, List.getElem?_eq_getElem h]
      exact hord9
    · rcases List.mem_append.1 hc with hc | hc
      · simp [hc]
      · simp [hIC c hc]
    · simp only [if_true] at hS9
      exact hS9.weak (by intro f; simp only [ms_append, ms_cons, ms_nil]; omega)
  have h : k = ins.length := by simp at h; omega
  subst h
  rw [List.take_length] at hD8 hS8
  -- the end
  have hend := wayM_end (room := 10000) (b := runL ins) (n := runName) (by decide) (by decide) (by decide) (by decide)
  refine ⟨fun _ => True, trivial, (k23 (M := wayM 10000 (runL ins)) ((wayM_fit _ _).mono (by omega)) hS8.drew hD8 runName).mono ?_⟩
  rw [hend]
  rintro _ w10 ⟨D10, C10, rfl, hD10, hS10⟩
  have hS10B : Sep E w10 (B ++ (wChunk b d sl any ins.length :: (D10.chunks (endWay 10000 runName (runL ins)) d ++ (C10 ++ C)))) := hS10.weak (by intro f; simp only [ms_append, ms_cons, ms_nil]; omega)
  refine ⟨_, rfl, fun w => Sep E w B, hS10.weak (by intro f; simp only [ms_append, ms_cons, ms_nil]; omega), brc_false rfl ?_⟩
  refine ⟨s1, fun w hw => hw.getL (by simp [B]), ?_⟩
  refine (k24 hS10 List.mem_cons_self).mono ?_
  rintro _ w10 ⟨rfl, rfl⟩
  refine ⟨_, rfl, fun w => Sep E w B, fun w hw => hw, hS10.weak (by intro f; simp only [ms_append, ms_cons, ms_nil]; omega), brc_false (by rw [hsz]; simp) ?_⟩
  have hS10' : Sep E w10 (D10.chunks (endWay 10000 runName (runL ins)) d ++ (C10 ++ (C ++ (wChunk b d sl any ins.length :: B)))) := hS10.weak (by intro f; simp only [ms_append, ms_cons, ms_nil]; omega)
  refine (k28 (M := endWay 10000 runName (runL ins)) ((endWay_fit 10000 runName (runL ins)).left) hS10' hD10 (fun c hc => by simp [hIC c hc]) runName fun f hf => Nat.le_trans ((endWay_fit 10000 runName (runL ins)).files f hf) (by omega)).mono ?_
  rw [endWay_read]
  rintro _ w11 ⟨s5, C11, rfl, hr5, _, _, hS11⟩
  refine ⟨s5, _, rfl, ?_⟩
  obtain ⟨a4, w12, h12, hS12⟩ := hS11.newL
  refine ⟨_, w12, h12, ?_⟩
  -- run.All
  refine call29 ?_
  unfold ir29
  obtain ⟨c, w13, h13, hS13⟩ := hS12.newVar (t := 26) (v := slV s5)
  refine ⟨_, w13, h13, ⟨.func 89, #[], #[.pointer (some ⟨c, 0, none⟩)]⟩, rfl, ?_⟩
  let F : List Chunk := (D10.chunks (endWay 10000 runName (runL ins)) d ++ (C10 ++ (C ++ (wChunk b d sl any ins.length :: (G4 ++ C2)))))
  have hS13' : Sep E w13 ((lC a4 SV.nil :: bC a1 false :: lC a2 s1 :: []) ++ (C11 ++ ((c, .cells [slV s5].toArray 26 (0, 0)) :: (C4 ++ (L ++ F))))) := Sep.weak (L := (c, .cells (slV s5).cells 26 (0, 0)) :: lC a4 SV.nil :: (D10.chunks (endWay 10000 runName (runL ins)) d ++ (C11 ++ (C10 ++ (C ++ (wChunk b d sl any ins.length :: B)))))) hS13 (by
    intro f
    simp only [B, F, Value.cells, slV, ms_append, ms_cons, ms_nil]
    omega)
  refine rangeS (by kernel_rfl) hS13' fun X l D w14 hS14 hX => ?_
  have hrecs : recsR ⟨runL ins, none, false⟩ = ins.map fun x => (x, (0 : Int)) := recs_runL ins none h64 hris fun l hl => by cases hl
  let J : YInv Rec1 := {
    on := fun pre U I => ∃ (so : SV) (ss : List SV) (Co G : List Chunk), U = loopC X l D .ready none :: defC D :: lC a4 so :: bC a1 false :: lC a2 s1 :: (Co ++ G) ∧ OwnL so ss (pre.map Prod.fst) Co I
    off := fun _ _ _ => False
    mono := fun hI h => by
      obtain ⟨so, ss, Co, G, h1, h2⟩ := h
      exact ⟨so, ss, Co, G, h1, h2.own, h2.rds.mono hI⟩
    mono' := fun _ h => h }
  have hy : Yields1 E l J (fun pre => pre <+: recsR ⟨runL ins, none, false⟩) recEnc := by
    rintro pre ⟨xb, xe⟩ U I R w vs hp ⟨so, ss, Co, G, rfl, hown⟩ ⟨sx, hrx, rfl⟩ hSw
    rw [hrecs] at hp
    obtain ⟨hx0, hpl⟩ := prefix_map hp
    dsimp only at hx0 hrx
    subst hx0
    have hSw' : Sep E w (loopC X l D .ready none :: (defC D :: lC a4 so :: bC a1 false :: lC a2 s1 :: (Co ++ G ++ (I ++ R)))) := hSw
    refine yieldS (Pn := fun F' => ∃ (so' : SV) (ss' : List SV) (Co' : List Chunk) (G' : List Chunk), F' = defC D :: lC a4 so' :: bC a1 false :: lC a2 s1 :: (Co' ++ (G' ++ (I ++ R))) ∧ OwnL so' ss' ((pre ++ [(xb, (0 : Int))]).map Prod.fst) Co' I) (Pt := fun _ => False) hSw' ?_ ?_ (fun _ _ h => h.elim)
    · refine hX sx 0 w _ ?_
      obtain ⟨w2, hb2, hSb⟩ := hSw'.begin
      refine ⟨w2, hb2, brc_false rfl ?_⟩
      have hso := hown.size
      rw [List.length_map] at hso
      refine ⟨so, hSb.getL (by simp), s1, hSb.getL (by simp), brc_false (by rw [hso, hsz]; exact decide_eq_false (by omega)) ?_⟩
      refine ⟨so, hSb.getL (by simp), ?_⟩
      have hSb' : Sep E w2 (Co ++ (loopC X l D .busy none :: defC D :: lC a4 so :: bC a1 false :: lC a2 s1 :: (G ++ (I ++ R)))) := hSb.weak (by intro f; simp only [ms_append, ms_cons, ms_nil]; omega)
      obtain ⟨s10, w3, e3, s11, w4, C', G', e4, ho4, hS4⟩ := hSb'.push1 hown hrx (by rw [List.length_map]; omega)
      refine ⟨s10, w3, e3, s11, w4, e4, ?_⟩
      have hS4' : Sep E w4 (lC a4 so :: (C' ++ (G' ++ (loopC X l D .busy none :: defC D :: bC a1 false :: lC a2 s1 :: (G ++ (I ++ R)))))) := hS4.weak (by intro f; simp only [ms_append, ms_cons, ms_nil]; omega)
      obtain ⟨w5, e5, hS5⟩ := hS4'.setL s11
      refine ⟨w5, e5, _, ⟨s11, ss ++ [sx], C', G' ++ G, rfl, by rw [List.map_append]; exact ho4⟩, hS5.weak (by intro f; simp only [ms_append, ms_cons, ms_nil]; omega)⟩
    · rintro F' w4 ⟨so', ss', Co', G', rfl, ho'⟩ hS4
      exact ⟨loopC X l D .ready none :: defC D :: lC a4 so' :: bC a1 false :: lC a2 s1 :: (Co' ++ G'), hS4.weak (by intro f; simp only [ms_append, ms_cons, ms_nil]; omega), .inl ⟨rfl, so', ss', Co', G', rfl, ho'⟩⟩
  have hr5 : RdB C11 s5 (runL ins) := hr5
  have hS14' : Sep E w14 ((loopC X l D .ready none :: defC D :: lC a4 SV.nil :: bC a1 false :: lC a2 s1 :: ([] ++ [])) ++ (C11 ++ ((c, .cells [slV s5].toArray 26 (0, 0)) :: (C4 ++ (L ++ F))))) := hS14.weak (by intro f; simp only [ms_append, ms_cons, ms_nil]; omega)
  refine (k89 (J := J) hS14' hr5 (by omega) ⟨SV.nil, [], [], [], rfl, Own.nil _ _, RdBs.nil _⟩ hy).mono ?_
  rintro _ w15 ⟨rfl, U', I', R', hS15, hI', hj | ⟨pre, _, hj⟩⟩
  case inr => exact hj.elim
  obtain ⟨so, ss, Co, G, rfl, hown⟩ := hj
  rw [hrecs] at hown
  have hmm : (ins.map fun x => (x, (0 : Int))).map Prod.fst = ins := by
    rw [List.map_map]
    exact List.map_id _
  rw [hmm] at hown
  have hS15' : Sep E w15 (loopC X l D .ready none :: defC D :: lC a4 so :: bC a1 false :: lC a2 s1 :: (Co ++ (G ++ (I' ++ ((c, .cells [slV s5].toArray 26 (0, 0)) :: (R' ++ (C4 ++ (L ++ F)))))))) := hS15.weak (by intro f; simp only [ms_append, ms_cons, ms_nil]; omega)
  refine ⟨⟨_, rfl⟩, leave_nrm hS15' fun w16 hS16 => ?_⟩
  refine brc_true rfl (brc_true rfl ?_)
  refine ⟨so, hS16.getL (by simp), s1, hS16.getL (by simp), ?_⟩
  refine (k30 hS16 (hown.rdl.mono fun c hc => by
    rcases List.mem_append.1 hc with hc | hc <;> simp [hc]) (hrdl.mono fun c hc => by
    rcases List.mem_append.1 hc with hc | hc <;> simp [hc]) (by omega)).mono ?_
  rintro _ w17 ⟨rfl, hS17⟩
  refine ⟨_, rfl, ?_⟩
  rw [decide_eq_true rfl]
  have hS17' : Sep E w17 (bC a1 false :: (defC D :: L)) := hS17.weak (by intro f; simp only [ms_append, ms_cons, ms_nil]; omega)
  obtain ⟨w18, h18, hS18⟩ := hS17'.setB true
  refine ⟨w18, h18, shutS (L := bC a1 true :: L) (hS18.weak (by intro f; simp only [ms_append, ms_cons, ms_nil]; omega)) fun w19 hS19 => ?_⟩
  exact ⟨true, hS19.getB (by simp), rfl, [_, _], hS19⟩

end Go.Proofs.Ytonjaaljnjjjcaa
