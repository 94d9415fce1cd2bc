/- The program's disk: contracts of its single steps. Conditions: as each lemma says. -/
import Derived.Test.YtonjaaljnjjjcaaD1
set_option linter.unusedVariables false
set_option linter.unusedSimpArgs false
namespace Go.Proofs.Ytonjaaljnjjjcaa
open Go Go.RowKit

theorem u137 : Pr.underlying 137 = some (.map 9 141) := by kernel_rfl
theorem z141 : (Pr.info? 141).bind (·.zero) = some (.pointer none) := by kernel_rfl
theorem u9 : Pr.underlying 9 = some .string := by kernel_rfl

/-- What a look-up of a name yields. -/
theorem NameRep.look {bs : List Nat} {nm : Names} {l : List (Ent ByteArray)} {c : Nat} (h : NameRep bs nm l c) {E w : World} {L : List Chunk} {m : Nat} (hS : Sep E w L) (hm : strM m l c ∈ L) (k : ByteArray) :
    At Pr w (Instr.lookup 137 (.map (some m)) (.string k) false) (.pointer ((findN k nm).bind (filePtr bs))) := by
  have := hS.lookup (mt := 137) hm u137 z141 (keyOk_str u9 w l k)
  rw [h.get k] at this
  cases hf : findN k nm with
  | none => simpa [hf] using this
  | some i => simpa [hf] using this

theorem filePtr_some {bs : List Nat} {i : Nat} (h : i < bs.length) : filePtr bs i = some ⟨bs[i], 0, none⟩ := by simp [filePtr, h]

theorem k87 {E w : World} {L I : List Chunk} {M : MDisk} {D : DS} {d : Nat} (hl : M.left ≤ 9223372036854775807) (hS : Sep E w (D.chunks M d ++ L)) (hD : DRep D M I) (n : ByteArray) :
    Calls Pr 87 #[.pointer (some ⟨d, 0, none⟩), .string n] w fun e w' => e = .returned (.tuple #[.pointer ((M.find n).2.1.bind (filePtr D.bs)), .int .i64 (M.find n).1]) ∧ Sep E w' (D.chunks M.ready.2 d ++ L) := by
  refine call87 ?_
  unfold ir87
  refine (k91 (L := _) hl hS).mono ?_
  rintro _ w1 ⟨rfl, hS1⟩
  have hS1 : Sep E w1 (D.chunks M.ready.2 d ++ L) := hS1
  have hD1 := hD.ready
  refine ⟨M.ready.1, rfl, brc_intro (fun h => ?_) (fun h => ?_)⟩
  · have h : M.ready.1 ≠ 0 := by simpa using h
    have hf : M.find n = (M.ready.1, none, M.ready.2) := by simp [MDisk.find, h]
    rw [hf]
    exact ⟨rfl, hS1⟩
  · have h : M.ready.1 = 0 := by simpa using h
    refine ⟨some D.mn, hS1.load (o := 0) List.mem_cons_self rfl (by kernel_rfl), _, hD1.now.look hS1 (List.mem_cons_of_mem _ List.mem_cons_self) n, ?_⟩
    cases hf : findN n M.ready.2.now with
    | none =>
      have hf' : M.find n = (2, none, M.ready.2) := by simp [MDisk.find, h, hf]
      rw [hf']
      exact brc_true rfl ⟨rfl, hS1⟩
    | some i =>
      have hf' : M.find n = (0, some i, M.ready.2) := by simp [MDisk.find, h, hf]
      rw [hf']
      have hi := hD1.now.ids n i hf
      refine brc_false ?_ ⟨rfl, hS1⟩
      simp [filePtr_some hi]

theorem ba_ne (s : ByteArray) : (!(ByteArray.toList s == ByteArray.toList (⟨#[]⟩ : ByteArray))) = decide (s ≠ noName) := by
  rw [ba_eq_toList]
  show (!decide (s = noName)) = _
  simp

/-- names.do. -/
theorem k109 {E w : World} {L : List Chunk} {m c : Nat} {l : List (Ent ByteArray)} {gone new : ByteArray} {p : Option Addr} (hS : Sep E w (strM m l c :: L)) (hw : MapWf l c) :
    Calls Pr 109 #[.map (some m), .agg #[.string gone, .string new, .pointer p]] w fun e w' => ∃ (l' : List (Ent ByteArray)) (c' : Nat) (C : List Chunk), e = .returned (.tuple #[]) ∧ MapWf l' c' ∧ Sep E w' (strM m l' c' :: (C ++ L)) ∧
      ∀ k, getE k l' = if new ≠ noName ∧ k = new then some (.pointer p) else if k = gone then none else getE k l := by
  refine call109 ?_
  unfold ir109
  obtain ⟨b, w1, h1, hS1⟩ := hS.newVar (t := 153) (v := .agg #[.string gone, .string new, .pointer p])
  refine ⟨_, w1, h1, gone, hS1.load (o := 0) List.mem_cons_self rfl (by kernel_rfl), ?_⟩
  have hS1' : Sep E w1 (strM m l c :: (b, .cells (Value.agg #[.string gone, .string new, .pointer p]).cells 153 (0, 0)) :: L) := hS1.weak (by intro f; simp only [ms_append, ms_cons, ms_nil]; omega)
  obtain ⟨w2, h2, hS2⟩ := hS1'.delete (mt := 137) u137 (keyOk_str u9 w1 l gone) (kt' := 9) (ty := 0)
  refine ⟨w2, h2, new, hS2.load (o := 1) (List.mem_cons_of_mem _ List.mem_cons_self) rfl (by kernel_rfl), ?_⟩
  rw [ba_ne]
  refine brc_intro (fun h => ?_) (fun h => ?_)
  · have h : new ≠ noName := by simpa using h
    refine ⟨new, hS2.load (o := 1) (List.mem_cons_of_mem _ List.mem_cons_self) rfl (by kernel_rfl), p, hS2.load (o := 2) (List.mem_cons_of_mem _ List.mem_cons_self) rfl (by kernel_rfl), ?_⟩
    obtain ⟨w3, h3, hS3⟩ := hS2.mapUpdate (mt := 137) u137 (.pointer p) (keyOk_str u9 w2 (delE gone l) new)
    refine ⟨w3, h3, _, _, [_], rfl, (hw.del gone).set new _, hS3, fun k => ?_⟩
    rw [getE_setE, getE_delE _ _ _ hw.keys]
    simp [h]
  · have h : new = noName := by simpa using h
    refine ⟨_, _, [_], rfl, hw.del gone, hS2, fun k => ?_⟩
    rw [getE_delE _ _ _ hw.keys]
    simp [h]

theorem NameRep.step {bs : List Nat} {nm : Names} {l l' : List (Ent ByteArray)} {c c' : Nat} (h : NameRep bs nm l c) {x : MChange} (hw : MapWf l' c') (hf : x.new ≠ noName → x.file < bs.length)
    (hg : ∀ k, getE k l' = if x.new ≠ noName ∧ k = x.new then some (.pointer (if x.new = noName then none else filePtr bs x.file)) else if k = x.gone then none else getE k l) : NameRep bs (doN nm x) l' c' := by
  refine ⟨hw, fun k => ?_, fun k i hi => ?_, doN_sorted h.sorted x⟩
  · rw [hg, findN_do]
    split
    · rename_i h1
      simp [h1.1]
    · split
      · rfl
      · exact h.get k
  · rw [findN_do] at hi
    split at hi
    · rename_i h1
      simp only [Option.some.injEq] at hi
      subst hi
      exact hf h1.1
    · split at hi
      · cases hi
      · exact h.ids k i hi

theorem ti138 : TI 138 153 3 40 (.agg #[.string ByteArray.empty, .string ByteArray.empty, .pointer none]) := ⟨by kernel_rfl, by kernel_rfl, rfl, by decide⟩

theorem chV_len (bs : List Nat) (l : List MChange) : (l.flatMap (chV bs)).length = l.length * 3 := by
  induction l with
  | nil => rfl
  | cons c l ih => simp [chV, ih]; omega

theorem chV_one (bs : List Nat) (l : List MChange) : ∀ u ∈ l.flatMap (chV bs), u.oneCell' = true := by
  intro u hu
  obtain ⟨c, _, hu⟩ := List.mem_flatMap.1 hu
  simp [chV] at hu
  rcases hu with rfl | rfl | rfl <;> rfl

/-- changed. -/
theorem k93 {E w : World} {L I : List Chunk} {M : MDisk} {D : DS} {d : Nat} {x : MChange} (hS : Sep E w (D.chunks M d ++ L)) (hD : DRep D M I) (hx : x.new ≠ noName → x.file < D.bs.length) (hc : M.changes.length ≤ 1099511627776) :
    Calls Pr 93 #[.pointer (some ⟨d, 0, none⟩), .agg #[.string x.gone, .string x.new, .pointer (if x.new = noName then none else filePtr D.bs x.file)]] w fun e w' => ∃ (D' : DS) (C : List Chunk), e = .returned (.tuple #[]) ∧ DRep D' (M.chg x) I ∧ Sep E w' (D'.chunks (M.chg x) d ++ (C ++ L)) := by
  refine call93 ?_
  unfold ir93
  obtain ⟨b, w1, h1, hS1⟩ := hS.newVar (t := 153) (v := .agg #[.string x.gone, .string x.new, .pointer (if x.new = noName then none else filePtr D.bs x.file)])
  generalize hp : (if x.new = noName then none else filePtr D.bs x.file) = p at *
  refine ⟨_, w1, h1, fun w => Sep E w ((b, .cells (Value.agg #[.string x.gone, .string x.new, .pointer p]).cells 153 (0, 0)) :: (D.chunks M d ++ L)), hS1.drew, ?_⟩
  refine ⟨some D.mn, fun w hw => hw.load (o := 0) (List.mem_cons_of_mem _ List.mem_cons_self) rfl (by kernel_rfl), x.gone, x.new, p, fun w hw => hw.loadS (o := 0) (n := 3) List.mem_cons_self (by kernel_rfl) (by kernel_rfl) rfl (by simp [Value.cells]), ?_⟩
  have hS1' : Sep E (World.drew w1) (strM D.mn D.ln D.cn :: (dChunk M d D.mn D.mq D.cs :: (b, .cells (Value.agg #[.string x.gone, .string x.new, .pointer p]).cells 153 (0, 0)) :: (strM D.mq D.lk D.ck :: (D.CC ++ D.fs.map fChunk) ++ L))) := hS1.drew.weak (by intro f; simp only [DS.chunks, ms_append, ms_cons, ms_nil]; omega)
  refine (k109 hS1' hD.now.wf).mono ?_
  rintro _ w2 ⟨l', c', C, rfl, hw', hS2, hg⟩
  refine ⟨rfl, fun _ => True, trivial, ?_⟩
  have hbn := hD.now.step hw' hx (by rw [hp]; exact hg)
  let F : List Chunk := (b, .cells (Value.agg #[.string x.gone, .string x.new, .pointer p]).cells 153 (0, 0)) :: dChunk M d D.mn D.mq D.cs :: (strM D.mn l' c' :: strM D.mq D.lk D.ck :: (D.CC ++ D.fs.map fChunk) ++ (C ++ L))
  have hS2' : Sep E (World.drew w2) F := hS2.drew.weak (by intro f; simp only [F, ms_append, ms_cons, ms_nil]; omega)
  refine ⟨fun w => Sep E w [(b, .cells (Value.agg #[.string x.gone, .string x.new, .pointer p]).cells 153 (0, 0)), dChunk M d D.mn D.mq D.cs], hS2'.weak (by intro f; simp only [F, ms_append, ms_cons, ms_nil]; omega), D.cs, fun w hw => hw.load (o := 2) (List.mem_cons_of_mem _ List.mem_cons_self) rfl (by kernel_rfl), x.gone, x.new, p, fun w hw => hw.loadS (o := 0) (n := 3) List.mem_cons_self (by kernel_rfl) (by kernel_rfl) rfl (by simp [Value.cells]), ?_⟩
  obtain ⟨g, w3, h3, hS3⟩ := hS2'.buildSlice (t := 138) (T := 153) (len := 1) (parts := [(0, .agg #[.string x.gone, .string x.new, .pointer p])]) (vs := [.string x.gone, .string x.new, .pointer p]) (by kernel_rfl) (by kernel_rfl)
  refine ⟨⟨some ⟨g, 0, none⟩, 1, 1⟩, w3, h3, _, fun w hw => hw, hS3.weak (by intro f; simp only [F, ms_append, ms_cons, ms_nil]; omega), ?_⟩
  have hS3' : Sep E w3 (D.CC ++ ((g, .cells [Value.string x.gone, .string x.new, .pointer p].toArray 153 (0, 0)) :: (b, .cells (Value.agg #[.string x.gone, .string x.new, .pointer p]).cells 153 (0, 0)) :: dChunk M d D.mn D.mq D.cs :: (strM D.mn l' c' :: strM D.mq D.lk D.ck :: D.fs.map fChunk ++ (C ++ L)))) := hS3.weak (by intro f; simp only [F, ms_append, ms_cons, ms_nil]; omega)
  have hlen : D.cs.len = M.changes.length := by
    have := hD.own.len
    rw [chV_len] at this
    omega
  have hsrc : RdS [(g, Obj.cells [Value.string x.gone, .string x.new, .pointer p].toArray 153 (0, 0))] 3 ⟨some ⟨g, 0, none⟩, 1, 1⟩ [.string x.gone, .string x.new, .pointer p] := (Own.new (T := 153) (g := g) (n := 1) rfl (by decide)).rds
  obtain ⟨s', w4, C4, h4, ho4, _, hS4⟩ := Sep.append (ty := 138) ti138 hS3' hD.own (hsrc.src hS3' fun c hc => by simp at hc; subst hc; simp) (by simp [Value.oneCell']) (by show (D.cs.len + 1) * 40 ≤ _; omega) (by show D.cs.len + 1 ≤ maxLen; unfold maxLen; omega)
  refine ⟨s', w4, h4, _, fun w hw => hw, hS4.weak (by intro f; simp only [ms_append, ms_cons, ms_nil]; omega), ?_⟩
  have hS4' : Sep E w4 (dChunk M d D.mn D.mq D.cs :: (C4 ++ ((g, .cells [Value.string x.gone, .string x.new, .pointer p].toArray 153 (0, 0)) :: (b, .cells (Value.agg #[.string x.gone, .string x.new, .pointer p]).cells 153 (0, 0)) :: (strM D.mn l' c' :: strM D.mq D.lk D.ck :: D.fs.map fChunk ++ (C ++ L))))) := hS4.weak (by intro f; simp only [ms_append, ms_cons, ms_nil]; omega)
  obtain ⟨w5, h5, hS5⟩ := hS4'.store (o := 2) (n := 1) (v := slV s') (t := 138) (by kernel_rfl) rfl (by simp) (by simp [Value.cells, Value.oneCell'])
  refine ⟨w5, h5, fun _ => True, trivial, ?_⟩
  refine ⟨{ D with ln := l', cn := c', cs := s', CC := C4 }, (g, .cells [Value.string x.gone, .string x.new, .pointer p].toArray 153 (0, 0)) :: (b, .cells (Value.agg #[.string x.gone, .string x.new, .pointer p]).cells 153 (0, 0)) :: C, rfl, ?_, ?_⟩
  · refine ⟨hD.files, hD.bytes, hbn, hD.kept, ?_, ?_⟩
    · show Own 153 3 s' ((M.changes ++ [x]).flatMap (chV D.bs)) C4
      rw [List.flatMap_append]
      have : [x].flatMap (chV D.bs) = [.string x.gone, .string x.new, .pointer p] := by simp [chV, hp]
      rw [this]
      exact ho4
    · intro c hc hn
      show c.file < D.bs.length
      rcases List.mem_append.1 hc with hc | hc
      · exact hD.chOk c hc hn
      · rw [List.mem_singleton] at hc
        subst hc
        exact hx hn
  · have : Sep E w5 (dChunk (M.chg x) d D.mn D.mq s' :: (C4 ++ ((g, .cells [Value.string x.gone, .string x.new, .pointer p].toArray 153 (0, 0)) :: (b, .cells (Value.agg #[.string x.gone, .string x.new, .pointer p]).cells 153 (0, 0)) :: (strM D.mn l' c' :: strM D.mq D.lk D.ck :: D.fs.map fChunk ++ (C ++ L))))) := hS5
    exact this.weak (by intro f; simp only [DS.chunks, ms_append, ms_cons, ms_nil]; omega)

end Go.Proofs.Ytonjaaljnjjjcaa
