/- The reference's list of records. Conditions: as each lemma says. -/
import Derived.Test.YtonjaaljnjjjcaaKG
import Derived.Test.YtonjaaljnjjjcaaA1
import Derived.Test.YtonjaaljnjjjcaaKE
set_option linter.unusedVariables false
set_option linter.unusedSimpArgs false
namespace Go.Proofs.Ytonjaaljnjjjcaa
open Go Go.RowKit

theorem ti52 : TI 52 55 2 32 (.agg #[.slice none 0 0, .int .i64 0]) := ⟨by kernel_rfl, by kernel_rfl, rfl, by decide⟩

/-- A cell of a slice, read in whatever world. -/
theorem RdS.cellU {I : List Chunk} {sz : Nat} {s : SV} {xs : List Value} (h : RdS I sz s xs) {j : Nat} {v : Value} (hv : xs[j]? = some v) :
    ∃ a, s.a = some a ∧ ∀ {E w : World} {L : List Chunk} {t : TypeId}, oneT Pr t = true → Sep E w L → (∀ c ∈ I, c ∈ L) → At Pr w (loadVar t (a.add j)) v := by
  have hj := (List.getElem?_eq_some_iff.1 hv).1
  cases ha : s.a with
  | none =>
    have h0 := h.nil ha
    have h1 := h.len
    rw [h0, Nat.zero_mul] at h1
    omega
  | some a =>
    refine ⟨a, rfl, fun ht hS hI => ?_⟩
    rcases h.at_ _ ha with h0 | ⟨hsp, cs, T, fr, hc, hv'⟩
    · have h1 := h.len
      rw [h0, Nat.zero_mul] at h1
      omega
    · obtain ⟨b, o, sp⟩ := a
      simp only at hsp
      subst hsp
      rw [addr_add]
      exact hS.load (hI _ hc) (hv' j v hv) ht

def recV (r : SV × Int) : List Value := [slV r.1, .int .i64 r.2]
theorem recV_len (rs : List (SV × Int)) : (rs.flatMap recV).length = rs.length * 2 := by
  induction rs with
  | nil => rfl
  | cons r rs ih => simp [recV, ih]; omega
theorem recV_one (rs : List (SV × Int)) : ∀ u ∈ rs.flatMap recV, u.oneCell' = true := by
  intro u hu
  obtain ⟨c, _, hu⟩ := List.mem_flatMap.1 hu
  simp [recV] at hu
  rcases hu with rfl | rfl <;> rfl
theorem recV_at : ∀ (rs : List (SV × Int)) (i : Nat) (r : SV × Int), rs[i]? = some r → (rs.flatMap recV)[i * 2]? = some (slV r.1) ∧ (rs.flatMap recV)[i * 2 + 1]? = some (.int .i64 r.2)
  | [], i, r, h => by simp at h
  | x :: rs, 0, r, h => by
    simp at h
    subst h
    exact ⟨rfl, rfl⟩
  | x :: rs, i + 1, r, h => by
    obtain ⟨h1, h2⟩ := recV_at rs i r (by simpa using h)
    have e1 : (i + 1) * 2 = i * 2 + 2 := by omega
    have e2 : (i + 1) * 2 + 1 = (i * 2 + 1) + 2 := by omega
    rw [List.flatMap_cons, e2, e1]
    exact ⟨by simpa [recV] using h1, by simpa [recV] using h2⟩

/-- Records, owned. -/
structure OwnR (s : SV) (rs : List (SV × Int)) (ls : List Rec1) (C I : List Chunk) : Prop where
  own : Own 55 2 s (rs.flatMap recV) C
  len : rs.length = ls.length
  rds : ∀ (i : Nat) (r : SV × Int) (l : Rec1), rs[i]? = some r → ls[i]? = some l → r.2 = l.2 ∧ RdB I r.1 l.1

theorem OwnR.size {s : SV} {rs : List (SV × Int)} {ls : List Rec1} {C I : List Chunk} (h : OwnR s rs ls C I) : s.len = ls.length := by
  have := h.own.len
  rw [recV_len] at this
  have := h.len
  omega
theorem OwnR.nil (I : List Chunk) : OwnR SV.nil [] [] [] I := ⟨Own.nil _ _, rfl, fun i r l h => by simp at h⟩
theorem OwnR.mono {s : SV} {rs : List (SV × Int)} {ls : List Rec1} {C I I' : List Chunk} (h : OwnR s rs ls C I) (hI : ∀ c ∈ I, c ∈ I') : OwnR s rs ls C I' := ⟨h.own, h.len, fun i r l h1 h2 => ⟨(h.rds i r l h1 h2).1, (h.rds i r l h1 h2).2.mono hI⟩⟩

/-- One more. -/
theorem Sep.pushR {E w : World} {C L I : List Chunk} {s x : SV} {rs : List (SV × Int)} {ls : List Rec1} {b : List UInt8} (hS : Sep E w (C ++ L)) (ho : OwnR s rs ls C I) (hx : RdB I x b) (e : Int) (hb : ls.length ≤ 1000000000000) :
    ∃ (s2 : SV) (w2 : World), Sem.run Pr (Instr.buildSlice 52 1 #[(0, .agg #[.slice x.a x.len x.cap, .int .i64 e])]) w = .ok (.slice s2.a s2.len s2.cap) w2 ∧
      ∃ (s3 : SV) (w3 : World) (C' G : List Chunk), Sem.run Pr (Builtin.append_ #[52, 52] 52 #[.slice s.a s.len s.cap, .slice s2.a s2.len s2.cap]) w2 = .ok (.slice s3.a s3.len s3.cap) w3 ∧ OwnR s3 (rs ++ [(x, e)]) (ls ++ [(b, e)]) C' I ∧ Sep E w3 (C' ++ (G ++ L)) := by
  obtain ⟨g, w2, h2, hS2⟩ := hS.buildSlice (t := 52) (T := 55) (len := 1) (parts := [(0, .agg #[.slice x.a x.len x.cap, .int .i64 e])]) (vs := [slV x, .int .i64 e]) (by kernel_rfl) (by kernel_rfl)
  have hS2' : Sep E w2 (C ++ ((g, .cells [slV x, .int .i64 e].toArray 55 (0, 0)) :: L)) := hS2.weak (by intro f; simp only [ms_append, ms_cons, ms_nil]; omega)
  have hl := ho.size
  have hsrc : RdS [(g, Obj.cells [slV x, .int .i64 e].toArray 55 (0, 0))] 2 ⟨some ⟨g, 0, none⟩, 1, 1⟩ [slV x, .int .i64 e] := (Own.new (T := 55) (g := g) (n := 1) rfl (by decide)).rds
  obtain ⟨s3, w3, C', h3, ho3, _, hS3⟩ := Sep.append (ty := 52) ti52 hS2' ho.own (hsrc.src hS2' fun c hc => by simp at hc; subst hc; simp) (recV_one [(x, e)]) (by show (s.len + 1) * 32 ≤ _; rw [hl]; omega) (by show s.len + 1 ≤ maxLen; rw [hl]; unfold maxLen; omega)
  refine ⟨⟨some ⟨g, 0, none⟩, 1, 1⟩, w2, h2, s3, w3, C', [_], h3, ⟨?_, by simp [ho.len], fun i r l h1 h2 => ?_⟩, hS3⟩
  · rw [List.flatMap_append]
    exact ho3
  · rw [List.getElem?_append] at h1 h2
    rw [ho.len] at h1
    split at h1
    · rename_i hi
      rw [if_pos hi] at h2
      exact ho.rds i r l h1 h2
    · rename_i hi
      rw [if_neg hi] at h2
      obtain ⟨hi', rfl⟩ := List.getElem?_eq_some_iff.1 h1
      obtain ⟨_, rfl⟩ := List.getElem?_eq_some_iff.1 h2
      simp only [List.getElem_singleton, true_and]
      exact hx

/-! ### The list, in plain Lean -/
def goL : Option (List UInt8) → List (List UInt8) → Bool → List Rec1
  | _, [], t => if t = true then [([], 6)] else []
  | o, x :: xs, t => if x.length ≤ 64 ∧ rises o x = true then (x, 0) :: goL (some x) xs t else [([], 6)]

theorem goL_recs (l : List UInt8) (o : Option (List UInt8)) : goL o (allF l).1 (decide ((allF l).2 < l.length)) = recsR ⟨l, o, false⟩ := by
  rw [recsR_eq]
  by_cases he : l = []
  · subst he
    have h5 : (takeF []).1 ≠ 0 := by decide
    rw [allF_bad h5]
    rfl
  have hpos : 0 < l.length := List.length_pos_iff.2 he
  by_cases h : (takeF l).1 = 0
  · obtain ⟨a, b, c⟩ := takeF_cnt h
    have ih := goL_recs (l.drop (takeF l).2.2) (some (takeF l).2.1)
    rw [allF_ok h]
    have ht : decide ((takeF l).2.2 + (allF (l.drop (takeF l).2.2)).2 < l.length) = decide ((allF (l.drop (takeF l).2.2)).2 < (l.drop (takeF l).2.2).length) := by
      rw [decide_eq_decide, List.length_drop]
      omega
    simp only [goL]
    rw [ht]
    by_cases hg : (takeF l).2.1.length ≤ 64 ∧ rises o (takeF l).2.1 = true
    · rw [if_pos hg, ih]
      have hn : MRd.next ⟨l, o, false⟩ = (((takeF l).2.1, true, 0), ⟨l.drop (takeF l).2.2, some (takeF l).2.1, false⟩) := by
        unfold MRd.next
        simp only [he, if_false, Bool.false_eq_true, h, hg, and_self, if_true]
      rw [hn]
      rfl
    · rw [if_neg hg]
      have hn : MRd.next ⟨l, o, false⟩ = (([], false, 6), ⟨l, o, true⟩) := by
        unfold MRd.next
        simp only [he, if_false, Bool.false_eq_true]
        rw [if_neg fun hh => hg hh.2]
      rw [hn]
      rfl
  · have hn : MRd.next ⟨l, o, false⟩ = (([], false, 6), ⟨l, o, true⟩) := by
      unfold MRd.next
      simp only [he, if_false, Bool.false_eq_true]
      rw [if_neg fun hh => h hh.1]
    rw [allF_bad h, hn]
    simp only [goL, hpos, decide_true, if_true]
    rfl
termination_by l.length
decreasing_by (simp; omega)

theorem allF_len (l : List UInt8) : 8 * (allF l).1.length ≤ (allF l).2 ∧ (allF l).2 ≤ l.length := by
  by_cases h : (takeF l).1 = 0
  · obtain ⟨a, b, c⟩ := takeF_cnt h
    have ih := allF_len (l.drop (takeF l).2.2)
    rw [allF_ok h]
    simp only [List.length_cons]
    rw [List.length_drop] at ih
    omega
  · rw [allF_bad h]
    simp
termination_by l.length
decreasing_by (simp; omega)

def prevOf (fs : List (List UInt8)) (k : Nat) : Option (List UInt8) := if k = 0 then none else fs[k - 1]?

theorem rises_prev {fs : List (List UInt8)} {k : Nat} (hk : 0 < k) (hk' : k < fs.length) : rises (prevOf fs k) fs[k] = Op.bytesLess fs[k - 1] fs[k] := by
  unfold prevOf
  rw [if_neg (by omega), List.getElem?_eq_getElem (by omega), rises_some]

/-- creelref13.List. -/
theorem k31 {E w : World} {L : List Chunk} {s : SV} {l : List UInt8} (hS : Sep E w L) (hr : RdB L s l) (hb : l.length ≤ 1000000000000) :
    Calls Pr 31 #[.slice s.a s.len s.cap] w fun e w' => ∃ (s' : SV) (rs : List (SV × Int)) (C I G : List Chunk), e = .returned (.slice s'.a s'.len s'.cap) ∧ OwnR s' rs (recsR ⟨l, none, false⟩) C I ∧ Sep E w' (C ++ (I ++ (G ++ L))) := by
  refine call31 ?_
  unfold ir31
  have hsz := hr.size
  rw [← goL_recs]
  refine (k90 hS hr hb).mono ?_
  rintro _ w1 ⟨s1, ss, C1, I, G1, rfl, ho, hS1⟩
  refine ⟨s1, _, rfl, ?_⟩
  obtain ⟨hl1, hl2⟩ := allF_len l
  have hfs := ho.size
  generalize hf : (allF l).1 = fs at *
  generalize hk : (allF l).2 = cnt at *
  generalize ht : decide (cnt < l.length) = t
  refine ⟨fun n σ w2 => ∃ (k : Nat) (rs : List (SV × Int)) (C G : List Chunk), k ≤ fs.length ∧ n = fs.length - k ∧ σ.1 = (k : Int) ∧ OwnR σ.2.1 rs ((fs.take k).map fun b => (b, (0 : Int))) C I ∧ goL none fs t = ((fs.take k).map fun b => (b, (0 : Int))) ++ goL (prevOf fs k) (fs.drop k) t ∧
    Sep E w2 (C ++ (G ++ (C1 ++ (I ++ (G1 ++ L))))), fs.length, ⟨0, [], [], [], Nat.zero_le _, rfl, rfl, OwnR.nil I, rfl, hS1⟩, ?_⟩
  rintro n ⟨i, o, u⟩ w2 ⟨k, rs, C, G, hk, rfl, hi, hor, hgo, hS2⟩ _
  dsimp only at hi hor ⊢
  subst hi
  have fail : ∀ w3 : World, Sep E w3 (C ++ (G ++ (C1 ++ (I ++ (G1 ++ L))))) → goL (prevOf fs k) (fs.drop k) t = [([], 6)] → ∃ (s3 : SV) (w4 : World), Sem.run Pr (Instr.buildSlice 52 1 #[(0, (.agg #[(.slice none 0 0), (.int .i64 6)]))]) w3 = .ok (.slice s3.a s3.len s3.cap) w4 ∧
      ∃ (s4 : SV) (w5 : World), Sem.run Pr (Builtin.append_ #[52, 52] 52 #[(.slice o.a o.len o.cap), (.slice s3.a s3.len s3.cap)]) w4 = .ok (.slice s4.a s4.len s4.cap) w5 ∧
        ∃ (s' : SV) (rs : List (SV × Int)) (C I G : List Chunk), Ending.returned (.slice s4.a s4.len s4.cap) = .returned (.slice s'.a s'.len s'.cap) ∧ OwnR s' rs (goL none fs t) C I ∧ Sep E w5 (C ++ (I ++ (G ++ L))) := by
    intro w3 hS3 hg
    obtain ⟨s3, w4, e4, s4, w5, C', G', e5, ho5, hS5⟩ := hS3.pushR (x := SV.nil) (b := []) hor (RdS.none I 1) 6 (by simp; omega)
    refine ⟨s3, w4, e4, s4, w5, e5, s4, rs ++ [(SV.nil, 6)], C', I, G' ++ (G ++ (C1 ++ G1)), rfl, ?_, hS5.weak (by intro f; simp only [ms_append, ms_cons, ms_nil]; omega)⟩
    rw [hgo, hg]
    exact ho5
  refine brc_intro (fun h => ?_) (fun h => ?_)
  · have h : k < fs.length := by simp at h; omega
    have hdrop : fs.drop k = fs[k] :: fs.drop (k + 1) := List.drop_eq_getElem_cons h
    obtain ⟨a, x, ha, hrx, hat⟩ := ho.idxU h
    have hxs := hrx.size
    have hCm : ∀ c ∈ C1, c ∈ C ++ (G ++ (C1 ++ (I ++ (G1 ++ L)))) := fun c hc => by simp [hc]
    have hIm : ∀ c ∈ I, c ∈ C ++ (G ++ (C1 ++ (I ++ (G1 ++ L)))) := fun c hc => by simp [hc]
    refine ⟨fun w => Sep E w (C ++ (G ++ (C1 ++ (I ++ (G1 ++ L))))), hS2.drew, ⟨by omega, by omega⟩, ?_⟩
    rw [ha]
    have good : fs[k].length ≤ 64 → rises (prevOf fs k) fs[k] = true → ∃ (s9 : SV), At Pr (World.drew w2) (loadVar 26 (Addr.add a (Int.toNat (k : Int) * 1))) (.slice s9.a s9.len s9.cap) ∧
        ∃ (s10 : SV) (w7 : World), Sem.run Pr (Instr.buildSlice 52 1 #[(0, (.agg #[(.slice s9.a s9.len s9.cap), (.int .i64 0)]))]) (World.drew w2) = .ok (.slice s10.a s10.len s10.cap) w7 ∧
          ∃ (s11 : SV) (w8 : World), Sem.run Pr (Builtin.append_ #[52, 52] 52 #[(.slice o.a o.len o.cap), (.slice s10.a s10.len s10.cap)]) w7 = .ok (.slice s11.a s11.len s11.cap) w8 ∧
            ∃ n', n' < fs.length - k ∧ ∃ (k' : Nat) (rs : List (SV × Int)) (C G : List Chunk), k' ≤ fs.length ∧ n' = fs.length - k' ∧ IntKind.wrap .i64 ((k : Int) + 1) = (k' : Int) ∧ OwnR s11 rs ((fs.take k').map fun b => (b, (0 : Int))) C I ∧ goL none fs t = ((fs.take k').map fun b => (b, (0 : Int))) ++ goL (prevOf fs k') (fs.drop k') t ∧
              Sep E w8 (C ++ (G ++ (C1 ++ (I ++ (G1 ++ L))))) := by
      intro h64 hris
      refine ⟨x, hat hS2.drew hCm, ?_⟩
      obtain ⟨s10, w7, e7, s11, w8, C', G', e8, ho8, hS8⟩ := hS2.drew.pushR hor hrx 0 (by simp; omega)
      have htk : fs.take (k + 1) = fs.take k ++ [fs[k]] := by rw [List.take_add_one, List.getElem?_eq_getElem h]; rfl
      refine ⟨s10, w7, e7, s11, w8, e8, fs.length - (k + 1), by omega, k + 1, rs ++ [(x, 0)], C', G' ++ G, by omega, rfl, by rw [w64 (by omega) (by omega)]; rfl, ?_, ?_, hS8.weak (by intro f; simp only [ms_append, ms_cons, ms_nil]; omega)⟩
      · rw [htk, List.map_append]
        exact ho8
      · rw [hgo, hdrop, htk, List.map_append, List.append_assoc]
        have : prevOf fs (k + 1) = some fs[k] := by unfold prevOf; rw [if_neg (by omega), Nat.add_sub_cancel, List.getElem?_eq_getElem h]
        rw [this]
        simp only [goL, h64, hris, and_self, if_true]
        rfl
    refine ⟨x, fun w hw => hat hw hCm, brc_intro (fun h1 => ?_) (fun h1 => ?_)⟩
    · have h1 : fs[k].length > 64 := by simp at h1; omega
      refine fail _ hS2.drew ?_
      rw [hdrop]
      simp only [goL]
      rw [if_neg fun hh => by omega]
    have h1 : fs[k].length ≤ 64 := by simp at h1; omega
    refine brc_intro (fun h2 => ?_) (fun h2 => ?_)
    · have h2 : 0 < k := by simp at h2; omega
      have hw : IntKind.wrap .i64 ((k : Int) - 1) = ((k - 1 : Nat) : Int) := by rw [w64 (by omega) (by omega)]; omega
      rw [hw]
      obtain ⟨a2, y, ha2, hry, haty⟩ := ho.idxU (k := k - 1) (by omega)
      have haa : a2 = a := Option.some.inj (ha2.symm.trans ha)
      subst haa
      refine ⟨⟨by omega, by omega⟩, y, fun w hw => haty hw hCm, _, fun w hw => hw.toStr hry hIm (by kernel_rfl) (by kernel_rfl), ⟨by omega, by omega⟩, x, fun w hw => hat hw hCm, _, fun w hw => hw.toStr hrx hIm (by kernel_rfl) (by kernel_rfl), ?_⟩
      rw [str_lt]
      have hrp := rises_prev h2 h
      refine brc_intro (fun h3 => ?_) (fun h3 => ?_)
      · have h3 : Op.bytesLess fs[k - 1] fs[k] = false := by simpa using h3
        refine fail _ hS2.drew ?_
        rw [hdrop]
        simp only [goL]
        rw [if_neg fun hh => by rw [hrp, h3] at hh; exact absurd hh.2 (by decide)]
      · have h3 : Op.bytesLess fs[k - 1] fs[k] = true := by simpa using h3
        exact ⟨⟨by omega, by omega⟩, good h1 (by rw [hrp, h3])⟩
    · have h2 : k = 0 := by simp at h2; omega
      exact ⟨⟨by omega, by omega⟩, good h1 (by unfold prevOf; rw [if_pos h2]; rfl)⟩
  · have h : k = fs.length := by simp at h; omega
    have hd : fs.drop k = [] := List.drop_of_length_le (by omega)
    refine brc_intro (fun h1 => ?_) (fun h1 => ?_)
    · have h1 : cnt < l.length := by simp at h1; omega
      refine fail _ hS2 ?_
      rw [hd, ← ht, decide_eq_true h1]
      rfl
    · have h1 : ¬ cnt < l.length := by simp at h1; omega
      refine ⟨o, rs, C, I, G ++ (C1 ++ G1), rfl, ?_, hS2.weak (by intro f; simp only [ms_append, ms_cons, ms_nil]; omega)⟩
      rw [hgo, hd, ← ht, decide_eq_false h1]
      simpa [goL] using hor

end Go.Proofs.Ytonjaaljnjjjcaa
