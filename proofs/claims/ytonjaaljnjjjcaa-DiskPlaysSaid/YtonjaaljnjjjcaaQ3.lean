/- The program's disk: Names, Crash. Conditions: as each lemma says. -/
import Derived.Laws.Externs
import Derived.Test.YtonjaaljnjjjcaaProg
import Derived.Shelf.Slices.In.SortAlone
import Derived.Shelf.Slices.In.SortNone
import Derived.Sort.EveryDepth
import Derived.KernelRfl
import Derived.Sort.Walk0
import Derived.Test.YtonjaaljnjjjcaaQ2
/- The program's disk: how it lies, and its contracts. Conditions: as each lemma says. -/
set_option linter.unusedVariables false
set_option linter.unusedSimpArgs false
namespace Go.Proofs.Ytonjaaljnjjjcaa
open Go Go.RowKit

/-! ### Maps with keys of their own -/
structure MapWf {K : Type} (l : List (Ent K)) (c : Nat) : Prop where
  keys : (l.map (·.k)).Nodup
  born : ∀ e ∈ l, e.born < c
  borns : (l.map (·.born)).Nodup

section
variable {K : Type} [DecidableEq K]

theorem getE_setE (k : K) (v : Value) (c : Nat) (j : K) : ∀ l : List (Ent K), getE j (setE k v c l) = if j = k then some v else getE j l
  | [] => by
    by_cases h : j = k
    · simp [setE, getE, h]
    · have : ¬ k = j := fun e => h e.symm
      simp [setE, getE, h, this]
  | x :: l => by
    unfold setE
    by_cases hx : x.k = k
    · rw [if_pos hx]
      by_cases h : j = k
      · simp [getE, h]
      · have : ¬ k = j := fun e => h e.symm
        have h2 : ¬ x.k = j := fun e => h (e.symm.trans hx)
        simp [getE, h, this, h2]
    · rw [if_neg hx]
      unfold getE
      rw [getE_setE k v c j l]
      by_cases hxj : x.k = j
      · have : ¬ j = k := fun e => hx (hxj.trans e)
        simp [hxj, this]
      · simp [hxj]

theorem getE_none {k : K} : ∀ {l : List (Ent K)}, getE k l = none ↔ ∀ e ∈ l, e.k ≠ k
  | [] => by simp [getE]
  | x :: l => by
    unfold getE
    by_cases hx : x.k = k
    · simp [hx]
    · rw [if_neg hx, getE_none (l := l)]
      simp [hx]

theorem getE_delE (k j : K) : ∀ l : List (Ent K), (l.map (·.k)).Nodup → getE j (delE k l) = if j = k then none else getE j l
  | [], _ => by simp [delE, getE]
  | x :: l, h => by
    rw [List.map_cons, List.nodup_cons] at h
    unfold delE
    by_cases hx : x.k = k
    · rw [if_pos hx]
      by_cases hj : j = k
      · rw [if_pos hj, getE_none]
        intro e he h2
        exact h.1 (List.mem_map.2 ⟨e, he, by rw [h2, hj, hx]⟩)
      · have : ¬ x.k = j := fun e => hj (e.symm.trans hx)
        simp [getE, hj, this]
    · rw [if_neg hx]
      unfold getE
      rw [getE_delE k j l h.2]
      by_cases hxj : x.k = j
      · have : ¬ j = k := fun e => hx (hxj.trans e)
        simp [hxj, this]
      · simp [hxj]

theorem delE_sub (k : K) : ∀ l : List (Ent K), (delE k l).Sublist l
  | [] => List.Sublist.refl _
  | x :: l => by
    unfold delE
    split
    · exact List.sublist_cons_self x l
    · exact (delE_sub k l).cons_cons x

theorem MapWf.del {l : List (Ent K)} {c : Nat} (h : MapWf l c) (k : K) : MapWf (delE k l) c :=
  ⟨((delE_sub k l).map _).nodup h.keys, fun e he => h.born e ((delE_sub k l).subset he), ((delE_sub k l).map _).nodup h.borns⟩

theorem setE_keys (k : K) (v : Value) (c : Nat) : ∀ l : List (Ent K), (setE k v c l).map (·.k) = if (getE k l).isSome then l.map (·.k) else l.map (·.k) ++ [k]
  | [] => rfl
  | x :: l => by
    unfold setE getE
    by_cases hx : x.k = k
    · rw [if_pos hx, if_pos hx]
      simp [hx]
    · rw [if_neg hx, if_neg hx, List.map_cons, setE_keys k v c l]
      split <;> simp

theorem setE_borns (k : K) (v : Value) (c : Nat) : ∀ l : List (Ent K), (setE k v c l).map (·.born) = if (getE k l).isSome then l.map (·.born) else l.map (·.born) ++ [c]
  | [] => rfl
  | x :: l => by
    unfold setE getE
    by_cases hx : x.k = k
    · rw [if_pos hx, if_pos hx]
      simp
    · rw [if_neg hx, if_neg hx, List.map_cons, setE_borns k v c l]
      split <;> simp

theorem MapWf.set {l : List (Ent K)} {c : Nat} (h : MapWf l c) (k : K) (v : Value) : MapWf (setE k v c l) (if (getE k l).isSome then c else c + 1) := by
  have hb : ∀ b ∈ (setE k v c l).map (·.born), b < if (getE k l).isSome then c else c + 1 := by
    rw [setE_borns]
    split
    · intro b hb
      obtain ⟨e, he, rfl⟩ := List.mem_map.1 hb
      exact h.born e he
    · intro b hb
      rcases List.mem_append.1 hb with hb | hb
      · obtain ⟨e, he, rfl⟩ := List.mem_map.1 hb
        have := h.born e he
        omega
      · simp at hb; omega
  refine ⟨?_, fun e he => hb _ (List.mem_map.2 ⟨e, he, rfl⟩), ?_⟩
  · rw [setE_keys]
    split
    · exact h.keys
    · rename_i hn
      have hn : getE k l = none := by simpa using hn
      rw [List.nodup_append]
      refine ⟨h.keys, by simp, fun a ha b hb => ?_⟩
      simp at hb
      subst hb
      obtain ⟨e, he, rfl⟩ := List.mem_map.1 ha
      exact getE_none.1 hn e he
  · rw [setE_borns]
    split
    · exact h.borns
    · rw [List.nodup_append]
      refine ⟨h.borns, by simp, fun a ha b hb => ?_⟩
      simp at hb
      subst hb
      obtain ⟨e, he, rfl⟩ := List.mem_map.1 ha
      have := h.born e he
      omega

theorem MapWf.nil (K : Type) : MapWf ([] : List (Ent K)) 0 := ⟨by simp, by simp, by simp⟩
end

/-! ### How a disk lies -/
structure FRec where
  b : Nat
  s : SV
  f : MFile
def fChunk (r : FRec) : Chunk := (r.b, .cells #[slV r.s, .int .i64 (r.f.kept : Int)] 146 (0, 0))
def filePtr (bs : List Nat) (i : Nat) : Option Addr := (bs[i]?).map fun b => ⟨b, 0, none⟩
def dChunk (M : MDisk) (d mn mk : Nat) (cs : SV) : Chunk := (d, .cells #[.map (some mn), .map (some mk), slV cs, .int .i64 (M.room : Int), .bool M.down, .bool M.doomed, .int .i64 (M.left : Int)] 140 (0, 0))
def chV (bs : List Nat) (c : MChange) : List Value := [.string c.gone, .string c.new, .pointer (if c.new = noName then none else filePtr bs c.file)]

structure NameRep (bs : List Nat) (nm : Names) (l : List (Ent ByteArray)) (c : Nat) : Prop where
  wf : MapWf l c
  get : ∀ k, getE k l = (findN k nm).map fun i => Value.pointer (filePtr bs i)
  ids : ∀ k i, findN k nm = some i → i < bs.length
  sorted : SortedN nm

structure DS where
  fs : List FRec
  mn : Nat
  mq : Nat
  ln : List (Ent ByteArray)
  lk : List (Ent ByteArray)
  cn : Nat
  ck : Nat
  cs : SV
  CC : List Chunk

def DS.bs (D : DS) : List Nat := D.fs.map (·.b)
abbrev strM (m : Nat) (l : List (Ent ByteArray)) (c : Nat) : Chunk := mapC Value.string m l c
def DS.chunks (D : DS) (M : MDisk) (d : Nat) : List Chunk := dChunk M d D.mn D.mq D.cs :: strM D.mn D.ln D.cn :: strM D.mq D.lk D.ck :: (D.CC ++ D.fs.map fChunk)

structure DRep (D : DS) (M : MDisk) (L : List Chunk) : Prop where
  files : D.fs.map (·.f) = M.files
  bytes : ∀ r ∈ D.fs, RdB L r.s r.f.bytes
  now : NameRep D.bs M.now D.ln D.cn
  kept : NameRep D.bs M.kept D.lk D.ck
  own : Own 153 3 D.cs (M.changes.flatMap (chV D.bs)) D.CC
  chOk : ∀ c ∈ M.changes, c.new ≠ noName → c.file < D.bs.length

theorem DRep.mono {D : DS} {M : MDisk} {L L' : List Chunk} (h : DRep D M L) (hL : ∀ c ∈ L, c ∈ L') : DRep D M L' := ⟨h.files, fun r hr => (h.bytes r hr).mono hL, h.now, h.kept, h.own, h.chOk⟩
theorem DRep.right {D : DS} {M : MDisk} {L : List Chunk} (h : DRep D M L) (C : List Chunk) : DRep D M (C ++ L) := h.mono fun c hc => List.mem_append_right _ hc

theorem DRep.ready {D : DS} {M : MDisk} {L : List Chunk} (h : DRep D M L) : DRep D M.ready.2 L := by
  obtain ⟨h1, h2, h3, h4, _⟩ := ready_same M
  exact ⟨h1 ▸ h.files, h.bytes, h2 ▸ h.now, h3 ▸ h.kept, by rw [h4]; exact h.own, by rw [h4]; exact h.chOk⟩

/-! ### Contracts -/
theorem k91 {E w : World} {L : List Chunk} {M : MDisk} {d mn mk : Nat} {cs : SV} (hl : M.left ≤ 9223372036854775807) (hS : Sep E w (dChunk M d mn mk cs :: L)) :
    Calls Pr 91 #[.pointer (some ⟨d, 0, none⟩)] w fun e w' => e = .returned (.int .i64 M.ready.1) ∧ Sep E w' (dChunk M.ready.2 d mn mk cs :: L) := by
  refine call91 ?_
  unfold ir91
  refine brc_false rfl ?_
  refine ⟨M.down, hS.load (o := 4) List.mem_cons_self rfl (by kernel_rfl), brc_intro (fun h => ?_) (fun h => ?_)⟩
  · have : M.ready = (40, M) := by simp [MDisk.ready, h]
    rw [this]
    exact ⟨rfl, hS⟩
  refine ⟨M.doomed, hS.load (o := 5) List.mem_cons_self rfl (by kernel_rfl), brc_intro (fun h' => ?_) (fun h' => ?_)⟩
  · refine ⟨(M.left : Int), hS.load (o := 6) List.mem_cons_self rfl (by kernel_rfl), brc_intro (fun h2 => ?_) (fun h2 => ?_)⟩
    · have h2 : M.left = 0 := by simpa using h2
      have : M.ready = (40, { M with down := true }) := by simp [MDisk.ready, h, h', h2]
      rw [this]
      obtain ⟨w1, h1, hS1⟩ := hS.store (o := 4) (n := 1) (v := .bool true) (t := 4) (by kernel_rfl) rfl (by simp) (by simp [Value.cells, Value.oneCell'])
      exact ⟨w1, h1, rfl, hS1⟩
    · have h2 : ¬ M.left = 0 := by simpa using h2
      have : M.ready = (0, { M with left := M.left - 1 }) := by simp [MDisk.ready, h, h', h2]
      rw [this]
      refine ⟨M.doomed, hS.load (o := 5) List.mem_cons_self rfl (by kernel_rfl), brc_true h' ?_⟩
      refine ⟨(M.left : Int), hS.load (o := 6) List.mem_cons_self rfl (by kernel_rfl), ?_⟩
      have hw : IntKind.wrap .i64 ((M.left : Int) - 1) = ((M.left - 1 : Nat) : Int) := by rw [w64 (by omega) (by omega)]; omega
      rw [hw]
      obtain ⟨w1, h1, hS1⟩ := hS.store (o := 6) (n := 1) (v := .int .i64 ((M.left - 1 : Nat) : Int)) (t := 3) (by kernel_rfl) rfl (by simp) (by simp [Value.cells, Value.oneCell'])
      exact ⟨w1, h1, rfl, hS1⟩
  · refine ⟨M.doomed, hS.load (o := 5) List.mem_cons_self rfl (by kernel_rfl), brc_false h' ?_⟩
    have : M.ready = (0, M) := by simp [MDisk.ready, h, h']
    rw [this]
    exact ⟨rfl, hS⟩

theorem k92 (w : World) (n : ByteArray) : Calls Pr 92 #[.string n] w fun e w' => e = .returned (.bool (MDisk.right n)) ∧ w' = w := by
  refine call92 ?_
  unfold ir92
  refine brc_intro (fun h => ?_) (fun h => ?_)
  · refine ⟨?_, rfl⟩
    have h : 1 ≤ n.size := by simp at h; omega
    congr 2
    simp only [MDisk.right, h, decide_true, Bool.true_and]
    rw [decide_eq_decide]
    omega
  · refine ⟨?_, rfl⟩
    have h : ¬ 1 ≤ n.size := by simp at h; omega
    simp [MDisk.right, h]

end Go.Proofs.Ytonjaaljnjjjcaa

/- The program's disk: contracts of its single steps. Conditions: as each lemma says. -/
set_option linter.unusedVariables false
set_option linter.unusedSimpArgs false
namespace Go.Proofs.Ytonjaaljnjjjcaa
open Go Go.RowKit

theorem u137 : Pr.underlying 137 = some (.map 9 141) := by kernel_rfl
theorem z141 : (Pr.info? 141).bind (·.zero) = some (.pointer none) := by kernel_rfl
theorem u9 : Pr.underlying 9 = some .string := by kernel_rfl

/-- What a look-up of a name yields. -/
theorem NameRep.look {bs : List Nat} {nm : Names} {l : List (Ent ByteArray)} {c : Nat} (h : NameRep bs nm l c) {E w : World} {L : List Chunk} {m : Nat} (hS : Sep E w L) (hm : strM m l c ∈ L) (k : ByteArray) :
    At Pr w (Instr.lookup 137 (.map (some m)) (.string k) false) (.pointer ((findN k nm).bind (filePtr bs))) := by
  have := hS.lookup (mt := 137) hm u137 z141 (keyOk_str u9 w l k)
  rw [h.get k] at this
  cases hf : findN k nm with
  | none => simpa [hf] using this
  | some i => simpa [hf] using this

theorem filePtr_some {bs : List Nat} {i : Nat} (h : i < bs.length) : filePtr bs i = some ⟨bs[i], 0, none⟩ := by simp [filePtr, h]

theorem k87 {E w : World} {L I : List Chunk} {M : MDisk} {D : DS} {d : Nat} (hl : M.left ≤ 9223372036854775807) (hS : Sep E w (D.chunks M d ++ L)) (hD : DRep D M I) (n : ByteArray) :
    Calls Pr 87 #[.pointer (some ⟨d, 0, none⟩), .string n] w fun e w' => e = .returned (.tuple #[.pointer ((M.find n).2.1.bind (filePtr D.bs)), .int .i64 (M.find n).1]) ∧ Sep E w' (D.chunks M.ready.2 d ++ L) := by
  refine call87 ?_
  unfold ir87
  refine (k91 (L := _) hl hS).mono ?_
  rintro _ w1 ⟨rfl, hS1⟩
  have hS1 : Sep E w1 (D.chunks M.ready.2 d ++ L) := hS1
  have hD1 := hD.ready
  refine ⟨M.ready.1, rfl, brc_intro (fun h => ?_) (fun h => ?_)⟩
  · have h : M.ready.1 ≠ 0 := by simpa using h
    have hf : M.find n = (M.ready.1, none, M.ready.2) := by simp [MDisk.find, h]
    rw [hf]
    exact ⟨rfl, hS1⟩
  · have h : M.ready.1 = 0 := by simpa using h
    refine ⟨some D.mn, hS1.load (o := 0) List.mem_cons_self rfl (by kernel_rfl), _, hD1.now.look hS1 (List.mem_cons_of_mem _ List.mem_cons_self) n, ?_⟩
    cases hf : findN n M.ready.2.now with
    | none =>
      have hf' : M.find n = (2, none, M.ready.2) := by simp [MDisk.find, h, hf]
      rw [hf']
      exact brc_true rfl ⟨rfl, hS1⟩
    | some i =>
      have hf' : M.find n = (0, some i, M.ready.2) := by simp [MDisk.find, h, hf]
      rw [hf']
      have hi := hD1.now.ids n i hf
      refine brc_false ?_ ⟨rfl, hS1⟩
      simp [filePtr_some hi]

theorem ba_ne (s : ByteArray) : (!(ByteArray.toList s == ByteArray.toList (⟨#[]⟩ : ByteArray))) = decide (s ≠ noName) := by
  rw [ba_eq_toList]
  show (!decide (s = noName)) = _
  simp

/-- names.do. -/
theorem k109 {E w : World} {L : List Chunk} {m c : Nat} {l : List (Ent ByteArray)} {gone new : ByteArray} {p : Option Addr} (hS : Sep E w (strM m l c :: L)) (hw : MapWf l c) :
    Calls Pr 109 #[.map (some m), .agg #[.string gone, .string new, .pointer p]] w fun e w' => ∃ (l' : List (Ent ByteArray)) (c' : Nat) (C : List Chunk), e = .returned (.tuple #[]) ∧ MapWf l' c' ∧ Sep E w' (strM m l' c' :: (C ++ L)) ∧
      ∀ k, getE k l' = if new ≠ noName ∧ k = new then some (.pointer p) else if k = gone then none else getE k l := by
  refine call109 ?_
  unfold ir109
  obtain ⟨b, w1, h1, hS1⟩ := hS.newVar (t := 153) (v := .agg #[.string gone, .string new, .pointer p])
  refine ⟨_, w1, h1, gone, hS1.load (o := 0) List.mem_cons_self rfl (by kernel_rfl), ?_⟩
  have hS1' : Sep E w1 (strM m l c :: (b, .cells (Value.agg #[.string gone, .string new, .pointer p]).cells 153 (0, 0)) :: L) := hS1.weak (by intro f; simp only [ms_append, ms_cons, ms_nil]; omega)
  obtain ⟨w2, h2, hS2⟩ := hS1'.delete (mt := 137) u137 (keyOk_str u9 w1 l gone) (kt' := 9) (ty := 0)
  refine ⟨w2, h2, new, hS2.load (o := 1) (List.mem_cons_of_mem _ List.mem_cons_self) rfl (by kernel_rfl), ?_⟩
  rw [ba_ne]
  refine brc_intro (fun h => ?_) (fun h => ?_)
  · have h : new ≠ noName := by simpa using h
    refine ⟨new, hS2.load (o := 1) (List.mem_cons_of_mem _ List.mem_cons_self) rfl (by kernel_rfl), p, hS2.load (o := 2) (List.mem_cons_of_mem _ List.mem_cons_self) rfl (by kernel_rfl), ?_⟩
    obtain ⟨w3, h3, hS3⟩ := hS2.mapUpdate (mt := 137) u137 (.pointer p) (keyOk_str u9 w2 (delE gone l) new)
    refine ⟨w3, h3, _, _, [_], rfl, (hw.del gone).set new _, hS3, fun k => ?_⟩
    rw [getE_setE, getE_delE _ _ _ hw.keys]
    simp [h]
  · have h : new = noName := by simpa using h
    refine ⟨_, _, [_], rfl, hw.del gone, hS2, fun k => ?_⟩
    rw [getE_delE _ _ _ hw.keys]
    simp [h]

theorem NameRep.step {bs : List Nat} {nm : Names} {l l' : List (Ent ByteArray)} {c c' : Nat} (h : NameRep bs nm l c) {x : MChange} (hw : MapWf l' c') (hf : x.new ≠ noName → x.file < bs.length)
    (hg : ∀ k, getE k l' = if x.new ≠ noName ∧ k = x.new then some (.pointer (if x.new = noName then none else filePtr bs x.file)) else if k = x.gone then none else getE k l) : NameRep bs (doN nm x) l' c' := by
  refine ⟨hw, fun k => ?_, fun k i hi => ?_, doN_sorted h.sorted x⟩
  · rw [hg, findN_do]
    split
    · rename_i h1
      simp [h1.1]
    · split
      · rfl
      · exact h.get k
  · rw [findN_do] at hi
    split at hi
    · rename_i h1
      simp only [Option.some.injEq] at hi
      subst hi
      exact hf h1.1
    · split at hi
      · cases hi
      · exact h.ids k i hi

theorem ti138 : TI 138 153 3 40 (.agg #[.string ByteArray.empty, .string ByteArray.empty, .pointer none]) := ⟨by kernel_rfl, by kernel_rfl, rfl, by decide⟩

theorem chV_len (bs : List Nat) (l : List MChange) : (l.flatMap (chV bs)).length = l.length * 3 := by
  induction l with
  | nil => rfl
  | cons c l ih => simp [chV, ih]; omega

theorem chV_one (bs : List Nat) (l : List MChange) : ∀ u ∈ l.flatMap (chV bs), u.oneCell' = true := by
  intro u hu
  obtain ⟨c, _, hu⟩ := List.mem_flatMap.1 hu
  simp [chV] at hu
  rcases hu with rfl | rfl | rfl <;> rfl

/-- changed. -/
theorem k93 {E w : World} {L I : List Chunk} {M : MDisk} {D : DS} {d : Nat} {x : MChange} (hS : Sep E w (D.chunks M d ++ L)) (hD : DRep D M I) (hx : x.new ≠ noName → x.file < D.bs.length) (hc : M.changes.length ≤ 1099511627776) :
    Calls Pr 93 #[.pointer (some ⟨d, 0, none⟩), .agg #[.string x.gone, .string x.new, .pointer (if x.new = noName then none else filePtr D.bs x.file)]] w fun e w' => ∃ (D' : DS) (C : List Chunk), e = .returned (.tuple #[]) ∧ DRep D' (M.chg x) I ∧ Sep E w' (D'.chunks (M.chg x) d ++ (C ++ L)) := by
  refine call93 ?_
  unfold ir93
  obtain ⟨b, w1, h1, hS1⟩ := hS.newVar (t := 153) (v := .agg #[.string x.gone, .string x.new, .pointer (if x.new = noName then none else filePtr D.bs x.file)])
  generalize hp : (if x.new = noName then none else filePtr D.bs x.file) = p at *
  refine ⟨_, w1, h1, fun w => Sep E w ((b, .cells (Value.agg #[.string x.gone, .string x.new, .pointer p]).cells 153 (0, 0)) :: (D.chunks M d ++ L)), hS1.drew, ?_⟩
  refine ⟨some D.mn, fun w hw => hw.load (o := 0) (List.mem_cons_of_mem _ List.mem_cons_self) rfl (by kernel_rfl), x.gone, x.new, p, fun w hw => hw.loadS (o := 0) (n := 3) List.mem_cons_self (by kernel_rfl) (by kernel_rfl) rfl (by simp [Value.cells]), ?_⟩
  have hS1' : Sep E (World.drew w1) (strM D.mn D.ln D.cn :: (dChunk M d D.mn D.mq D.cs :: (b, .cells (Value.agg #[.string x.gone, .string x.new, .pointer p]).cells 153 (0, 0)) :: (strM D.mq D.lk D.ck :: (D.CC ++ D.fs.map fChunk) ++ L))) := hS1.drew.weak (by intro f; simp only [DS.chunks, ms_append, ms_cons, ms_nil]; omega)
  refine (k109 hS1' hD.now.wf).mono ?_
  rintro _ w2 ⟨l', c', C, rfl, hw', hS2, hg⟩
  refine ⟨rfl, fun _ => True, trivial, ?_⟩
  have hbn := hD.now.step hw' hx (by rw [hp]; exact hg)
  let F : List Chunk := (b, .cells (Value.agg #[.string x.gone, .string x.new, .pointer p]).cells 153 (0, 0)) :: dChunk M d D.mn D.mq D.cs :: (strM D.mn l' c' :: strM D.mq D.lk D.ck :: (D.CC ++ D.fs.map fChunk) ++ (C ++ L))
  have hS2' : Sep E (World.drew w2) F := hS2.drew.weak (by intro f; simp only [F, ms_append, ms_cons, ms_nil]; omega)
  refine ⟨fun w => Sep E w [(b, .cells (Value.agg #[.string x.gone, .string x.new, .pointer p]).cells 153 (0, 0)), dChunk M d D.mn D.mq D.cs], hS2'.weak (by intro f; simp only [F, ms_append, ms_cons, ms_nil]; omega), D.cs, fun w hw => hw.load (o := 2) (List.mem_cons_of_mem _ List.mem_cons_self) rfl (by kernel_rfl), x.gone, x.new, p, fun w hw => hw.loadS (o := 0) (n := 3) List.mem_cons_self (by kernel_rfl) (by kernel_rfl) rfl (by simp [Value.cells]), ?_⟩
  obtain ⟨g, w3, h3, hS3⟩ := hS2'.buildSlice (t := 138) (T := 153) (len := 1) (parts := [(0, .agg #[.string x.gone, .string x.new, .pointer p])]) (vs := [.string x.gone, .string x.new, .pointer p]) (by kernel_rfl) (by kernel_rfl)
  refine ⟨⟨some ⟨g, 0, none⟩, 1, 1⟩, w3, h3, _, fun w hw => hw, hS3.weak (by intro f; simp only [F, ms_append, ms_cons, ms_nil]; omega), ?_⟩
  have hS3' : Sep E w3 (D.CC ++ ((g, .cells [Value.string x.gone, .string x.new, .pointer p].toArray 153 (0, 0)) :: (b, .cells (Value.agg #[.string x.gone, .string x.new, .pointer p]).cells 153 (0, 0)) :: dChunk M d D.mn D.mq D.cs :: (strM D.mn l' c' :: strM D.mq D.lk D.ck :: D.fs.map fChunk ++ (C ++ L)))) := hS3.weak (by intro f; simp only [F, ms_append, ms_cons, ms_nil]; omega)
  have hlen : D.cs.len = M.changes.length := by
    have := hD.own.len
    rw [chV_len] at this
    omega
  have hsrc : RdS [(g, Obj.cells [Value.string x.gone, .string x.new, .pointer p].toArray 153 (0, 0))] 3 ⟨some ⟨g, 0, none⟩, 1, 1⟩ [.string x.gone, .string x.new, .pointer p] := (Own.new (T := 153) (g := g) (n := 1) rfl (by decide)).rds
  obtain ⟨s', w4, C4, h4, ho4, _, hS4⟩ := Sep.append (ty := 138) ti138 hS3' hD.own (hsrc.src hS3' fun c hc => by simp at hc; subst hc; simp) (by simp [Value.oneCell']) (by show (D.cs.len + 1) * 40 ≤ _; omega) (by show D.cs.len + 1 ≤ maxLen; unfold maxLen; omega)
  refine ⟨s', w4, h4, _, fun w hw => hw, hS4.weak (by intro f; simp only [ms_append, ms_cons, ms_nil]; omega), ?_⟩
  have hS4' : Sep E w4 (dChunk M d D.mn D.mq D.cs :: (C4 ++ ((g, .cells [Value.string x.gone, .string x.new, .pointer p].toArray 153 (0, 0)) :: (b, .cells (Value.agg #[.string x.gone, .string x.new, .pointer p]).cells 153 (0, 0)) :: (strM D.mn l' c' :: strM D.mq D.lk D.ck :: D.fs.map fChunk ++ (C ++ L))))) := hS4.weak (by intro f; simp only [ms_append, ms_cons, ms_nil]; omega)
  obtain ⟨w5, h5, hS5⟩ := hS4'.store (o := 2) (n := 1) (v := slV s') (t := 138) (by kernel_rfl) rfl (by simp) (by simp [Value.cells, Value.oneCell'])
  refine ⟨w5, h5, fun _ => True, trivial, ?_⟩
  refine ⟨{ D with ln := l', cn := c', cs := s', CC := C4 }, (g, .cells [Value.string x.gone, .string x.new, .pointer p].toArray 153 (0, 0)) :: (b, .cells (Value.agg #[.string x.gone, .string x.new, .pointer p]).cells 153 (0, 0)) :: C, rfl, ?_, ?_⟩
  · refine ⟨hD.files, hD.bytes, hbn, hD.kept, ?_, ?_⟩
    · show Own 153 3 s' ((M.changes ++ [x]).flatMap (chV D.bs)) C4
      rw [List.flatMap_append]
      have : [x].flatMap (chV D.bs) = [.string x.gone, .string x.new, .pointer p] := by simp [chV, hp]
      rw [this]
      exact ho4
    · intro c hc hn
      show c.file < D.bs.length
      rcases List.mem_append.1 hc with hc | hc
      · exact hD.chOk c hc hn
      · rw [List.mem_singleton] at hc
        subst hc
        exact hx hn
  · have : Sep E w5 (dChunk (M.chg x) d D.mn D.mq s' :: (C4 ++ ((g, .cells [Value.string x.gone, .string x.new, .pointer p].toArray 153 (0, 0)) :: (b, .cells (Value.agg #[.string x.gone, .string x.new, .pointer p]).cells 153 (0, 0)) :: (strM D.mn l' c' :: strM D.mq D.lk D.ck :: D.fs.map fChunk ++ (C ++ L))))) := hS5
    exact this.weak (by intro f; simp only [DS.chunks, ms_append, ms_cons, ms_nil]; omega)

end Go.Proofs.Ytonjaaljnjjjcaa

/- The program's disk: contracts of what can be done. Conditions: as each lemma says. -/
set_option linter.unusedVariables false
set_option linter.unusedSimpArgs false
namespace Go.Proofs.Ytonjaaljnjjjcaa
open Go Go.RowKit

theorem ready_left {M : MDisk} (h : M.left ≤ 9223372036854775807) : M.ready.2.left ≤ 9223372036854775807 := by
  unfold MDisk.ready
  split
  · exact h
  · split
    · split
      · exact h
      · show M.left - 1 ≤ _; omega
    · exact h

theorem bs_len {D : DS} {M : MDisk} {L : List Chunk} (h : DRep D M L) : D.bs.length = M.files.length := by
  rw [← h.files]
  simp [DS.bs]

theorem filePtr_push (bs : List Nat) (b i : Nat) (h : i < bs.length) : filePtr (bs ++ [b]) i = filePtr bs i := by
  simp [filePtr, List.getElem?_append_left h]

theorem NameRep.push {bs : List Nat} {nm : Names} {l : List (Ent ByteArray)} {c : Nat} (h : NameRep bs nm l c) (b : Nat) : NameRep (bs ++ [b]) nm l c :=
  ⟨h.wf, fun k => by
    rw [h.get k]
    cases hf : findN k nm with
    | none => rfl
    | some i => simp [filePtr_push bs b i (h.ids k i hf)], fun k i hi => by
    have := h.ids k i hi
    simp; omega, h.sorted⟩

/-- Create. -/
theorem k32 {E w : World} {L I : List Chunk} {M : MDisk} {D : DS} {d : Nat} (hl : M.left ≤ 9223372036854775807) (hc : M.changes.length ≤ 1099511627776) (hS : Sep E w (D.chunks M d ++ L)) (hD : DRep D M I) (n : ByteArray) :
    Calls Pr 32 #[.pointer (some ⟨d, 0, none⟩), .string n] w fun e w' => ∃ (D' : DS) (C : List Chunk), e = .returned (.int .i64 (M.create n).1) ∧ DRep D' (M.create n).2 I ∧ Sep E w' (D'.chunks (M.create n).2 d ++ (C ++ L)) := by
  refine call32 ?_
  unfold ir32
  refine (k91 (L := _) hl hS).mono ?_
  rintro _ w1 ⟨rfl, hS1⟩
  have hS1 : Sep E w1 (D.chunks M.ready.2 d ++ L) := hS1
  have hD1 := hD.ready
  refine ⟨M.ready.1, rfl, brc_intro (fun h => ?_) (fun h => ?_)⟩
  · have h : M.ready.1 ≠ 0 := by simpa using h
    have hf : M.create n = M.ready := by simp [MDisk.create, h]
    rw [hf]
    exact ⟨D, [], rfl, hD1, hS1⟩
  have h : M.ready.1 = 0 := by simpa using h
  refine (k92 w1 n).mono ?_
  rintro _ _ ⟨rfl, rfl⟩
  refine ⟨_, rfl, brc_intro (fun h2 => ?_) (fun h2 => ?_)⟩
  · have h2 : MDisk.right n = false := by simpa using h2
    have hf : M.create n = (1, M.ready.2) := by simp [MDisk.create, h, h2]
    rw [hf]
    exact ⟨D, [], rfl, hD1, hS1⟩
  have h2 : MDisk.right n = true := by simpa using h2
  refine ⟨some D.mn, hS1.load (o := 0) List.mem_cons_self rfl (by kernel_rfl), _, hD1.now.look hS1 (List.mem_cons_of_mem _ List.mem_cons_self) n, ?_⟩
  cases hf : findN n M.ready.2.now with
  | some i =>
    have hf' : M.create n = (4, M.ready.2) := by simp [MDisk.create, h, h2, hf]
    rw [hf']
    have hi := hD1.now.ids n i hf
    refine brc_true ?_ ⟨D, [], rfl, hD1, hS1⟩
    simp [filePtr_some hi]
  | none =>
    have hf' : M.create n = (0, ({ M.ready.2 with files := M.ready.2.files ++ [MFile.mk [] 0] } : MDisk).chg ⟨noName, n, M.ready.2.files.length⟩) := by simp [MDisk.create, h, h2, hf]
    rw [hf']
    refine brc_false rfl ?_
    obtain ⟨b, w2, hb, hS2⟩ := hS1.newVar (t := 146) (v := .agg #[.slice none 0 0, .int .i64 0])
    refine ⟨_, w2, hb, ?_⟩
    have hn : n ≠ noName := by
      intro e
      subst e
      exact absurd h2 (by decide)
    have hbl := bs_len hD1
    let D1 : DS := { D with fs := D.fs ++ [⟨b, SV.nil, ⟨[], 0⟩⟩] }
    have hbs : D1.bs = D.bs ++ [b] := by simp [D1, DS.bs]
    have hD2 : DRep D1 { M.ready.2 with files := M.ready.2.files ++ [MFile.mk [] 0] } I := by
      refine ⟨?_, fun r hr => ?_, by rw [hbs]; exact hD1.now.push b, by rw [hbs]; exact hD1.kept.push b, ?_, ?_⟩
      · simp [D1, hD1.files]
      · rcases List.mem_append.1 hr with hr | hr
        · exact hD1.bytes r hr
        · rw [List.mem_singleton] at hr
          subst hr
          exact RdS.none I 1
      · have : M.ready.2.changes.flatMap (chV D1.bs) = M.ready.2.changes.flatMap (chV D.bs) := by
          unfold List.flatMap
          congr 1
          apply List.map_congr_left
          intro c hcm
          simp only [chV]
          split
          · rfl
          · rename_i hcn
            rw [hbs, filePtr_push _ _ _ (hD1.chOk c hcm hcn)]
        show Own 153 3 D.cs (M.ready.2.changes.flatMap (chV D1.bs)) D.CC
        rw [this]
        exact hD1.own
      · intro c hcm hcn
        have := hD1.chOk c hcm hcn
        rw [hbs]
        simp; omega
    have hx := hD2
    have hS2' : Sep E w2 (D1.chunks { M.ready.2 with files := M.ready.2.files ++ [MFile.mk [] 0] } d ++ L) := by
      refine hS2.weak ?_
      intro f
      simp only [D1, DS.chunks, ms_append, ms_cons, ms_nil, List.map_append, List.map_cons, List.map_nil]
      show _ ≤ f (b, Obj.cells #[Value.slice none 0 0, Value.int .i64 0] 146 (0, 0)) + _
      have e : fChunk ⟨b, SV.nil, ⟨[], 0⟩⟩ = (b, Obj.cells #[Value.slice none 0 0, Value.int .i64 0] 146 (0, 0)) := rfl
      rw [e]
      have e2 : dChunk { M.ready.2 with files := M.ready.2.files ++ [MFile.mk [] 0] } d D.mn D.mq D.cs = dChunk M.ready.2 d D.mn D.mq D.cs := rfl
      rw [e2]
      omega
    have hst := ready_same M
    have hk := k93 (x := ⟨noName, n, M.ready.2.files.length⟩) hS2' hD2 (fun _ => by rw [hbs]; simp; omega) (by rw [hst.2.2.2.1]; exact hc)
    have hp : (if n = noName then none else filePtr D1.bs M.ready.2.files.length) = some ⟨b, 0, none⟩ := by
      rw [if_neg hn, hbs]
      simp [filePtr, ← hbl]
    simp only [hp] at hk
    refine hk.mono ?_
    rintro _ w3 ⟨D', C, rfl, hD3, hS3⟩
    exact ⟨rfl, D', C, rfl, hD3, hS3⟩

/-- Remove. -/
theorem k86 {E w : World} {L I : List Chunk} {M : MDisk} {D : DS} {d : Nat} (hl : M.left ≤ 9223372036854775807) (hc : M.changes.length ≤ 1099511627776) (hS : Sep E w (D.chunks M d ++ L)) (hD : DRep D M I) (n : ByteArray) :
    Calls Pr 86 #[.pointer (some ⟨d, 0, none⟩), .string n] w fun e w' => ∃ (D' : DS) (C : List Chunk), e = .returned (.int .i64 (M.remove n).1) ∧ DRep D' (M.remove n).2 I ∧ Sep E w' (D'.chunks (M.remove n).2 d ++ (C ++ L)) := by
  refine call86 ?_
  unfold ir86
  refine (k87 hl hS hD n).mono ?_
  rintro _ w1 ⟨rfl, hS1⟩
  have hD1 := hD.ready
  have hst := ready_same M
  refine ⟨_, _, rfl, ?_⟩
  unfold MDisk.remove
  rcases find_cases M n with ⟨e, he, hf⟩ | ⟨i, hf, hi⟩
  · rw [hf]
    exact brc_true (by simpa using he) ⟨D, [], rfl, hD1, hS1⟩
  · rw [hf]
    refine brc_false rfl ?_
    have hk := k93 (x := ⟨n, noName, 0⟩) hS1 hD1 (fun h => absurd rfl h) (by rw [hst.2.2.2.1]; exact hc)
    refine Calls.mono (R := _) hk ?_
    rintro _ w3 ⟨D', C, rfl, hD3, hS3⟩
    exact ⟨rfl, D', C, rfl, hD3, hS3⟩

/-- Rename. -/
theorem k85 {E w : World} {L I : List Chunk} {M : MDisk} {D : DS} {d : Nat} (hl : M.left ≤ 9223372036854775807) (hc : M.changes.length ≤ 1099511627776) (hS : Sep E w (D.chunks M d ++ L)) (hD : DRep D M I) (n m : ByteArray) :
    Calls Pr 85 #[.pointer (some ⟨d, 0, none⟩), .string n, .string m] w fun e w' => ∃ (D' : DS) (C : List Chunk), e = .returned (.int .i64 (M.rename n m).1) ∧ DRep D' (M.rename n m).2 I ∧ Sep E w' (D'.chunks (M.rename n m).2 d ++ (C ++ L)) := by
  refine call85 ?_
  unfold ir85
  refine (k87 hl hS hD n).mono ?_
  rintro _ w1 ⟨rfl, hS1⟩
  have hD1 := hD.ready
  have hst := ready_same M
  refine ⟨_, _, rfl, ?_⟩
  unfold MDisk.rename
  rcases find_cases M n with ⟨e, he, hf⟩ | ⟨i, hf, hi⟩
  · rw [hf]
    exact brc_true (by simpa using he) ⟨D, [], rfl, hD1, hS1⟩
  · rw [hf]
    refine brc_false rfl ?_
    refine (k92 w1 m).mono ?_
    rintro _ _ ⟨rfl, rfl⟩
    have hil := hD1.now.ids n i hi
    refine ⟨_, rfl, brc_intro (fun h2 => ?_) (fun h2 => ?_)⟩
    · have h2 : MDisk.right m = false := by simpa using h2
      simp only [h2, if_true]
      exact ⟨D, [], by trivial, hD1, hS1⟩
    · have h2 : MDisk.right m = true := by simpa using h2
      have hm : m ≠ noName := by
        intro e
        subst e
        exact absurd h2 (by decide)
      simp only [h2, Bool.true_eq_false, if_false]
      have hk := k93 (x := ⟨n, m, i⟩) hS1 hD1 (fun _ => hil) (by rw [hst.2.2.2.1]; exact hc)
      simp only [if_neg hm] at hk
      refine Calls.mono (R := _) hk ?_
      rintro _ w3 ⟨D', C, rfl, hD3, hS3⟩
      exact ⟨rfl, D', C, by trivial, hD3, hS3⟩

theorem split_at {α : Type} {l : List α} {i : Nat} (h : i < l.length) : ∃ A x B, l = A ++ x :: B ∧ A.length = i ∧ l[i]? = some x :=
  ⟨l.take i, l[i], l.drop (i + 1), by rw [← List.drop_eq_getElem_cons h, List.take_append_drop], by simp; omega, by simp [h]⟩
theorem modify_mid {α : Type} (A B : List α) (x : α) (g : α → α) : (A ++ x :: B).modify A.length g = A ++ g x :: B := by
  induction A with
  | nil => rfl
  | cons a A ih => simp [ih]

/-- A file's record, and what else there is. -/
theorem DRep.file {D : DS} {M : MDisk} {I : List Chunk} (hD : DRep D M I) {i : Nat} (hi : i < D.bs.length) : ∃ A r B, D.fs = A ++ r :: B ∧ A.length = i ∧ filePtr D.bs i = some ⟨r.b, 0, none⟩ ∧ M.fileAt i = r.f ∧ r ∈ D.fs := by
  have hi' : i < D.fs.length := by simpa [DS.bs] using hi
  obtain ⟨A, r, B, h1, h2, h3⟩ := split_at hi'
  refine ⟨A, r, B, h1, h2, ?_, ?_, by rw [h1]; simp⟩
  · simp [filePtr, DS.bs, h3]
  · unfold MDisk.fileAt
    rw [← hD.files]
    simp [h3]

/-- A file's bytes, or how many are kept, turn. -/
theorem DRep.turn {D : DS} {M : MDisk} {L : List Chunk} (hD : DRep D M L) {A B : List FRec} {r : FRec} (hfs : D.fs = A ++ r :: B) {s : SV} (g : MFile → MFile) (hr : RdB L s (g r.f).bytes) :
    DRep { D with fs := A ++ ⟨r.b, s, g r.f⟩ :: B } (M.setFile A.length g) L := by
  have hbs : DS.bs { D with fs := A ++ ⟨r.b, s, g r.f⟩ :: B } = D.bs := by simp [DS.bs, hfs]
  refine ⟨?_, fun x hx => ?_, by rw [hbs]; exact hD.now, by rw [hbs]; exact hD.kept, by rw [hbs]; exact hD.own, by rw [hbs]; exact hD.chOk⟩
  · have := hD.files
    rw [hfs] at this
    show (A ++ ⟨r.b, s, g r.f⟩ :: B).map (·.f) = M.files.modify A.length g
    rw [← this, List.map_append, List.map_append, List.map_cons, List.map_cons]
    have hl : A.length = (A.map (·.f)).length := by simp
    rw [hl, modify_mid]
  · simp only [List.mem_append, List.mem_cons] at hx
    rcases hx with hx | rfl | hx
    · exact hD.bytes x (by rw [hfs]; simp [hx])
    · exact hr
    · exact hD.bytes x (by rw [hfs]; simp [hx])

theorem dChunk_set (M : MDisk) (i : Nat) (g : MFile → MFile) (d mn mk : Nat) (cs : SV) : dChunk (M.setFile i g) d mn mk cs = dChunk M d mn mk cs := rfl

/-- Sync. -/
theorem k57 {E w : World} {L I : List Chunk} {M : MDisk} {D : DS} {d : Nat} (hl : M.left ≤ 9223372036854775807) (hS : Sep E w (D.chunks M d ++ L)) (hD : DRep D M I) (n : ByteArray) :
    Calls Pr 57 #[.pointer (some ⟨d, 0, none⟩), .string n] w fun e w' => ∃ (D' : DS), e = .returned (.int .i64 (M.sync n).1) ∧ DRep D' (M.sync n).2 I ∧ Sep E w' (D'.chunks (M.sync n).2 d ++ L) := by
  refine call57 ?_
  unfold ir57
  refine (k87 hl hS hD n).mono ?_
  rintro _ w1 ⟨rfl, hS1⟩
  have hD1 := hD.ready
  refine ⟨_, _, rfl, ?_⟩
  unfold MDisk.sync
  rcases find_cases M n with ⟨e, he, hf⟩ | ⟨i, hf, hi⟩
  · rw [hf]
    exact brc_true (by simpa using he) ⟨D, rfl, hD1, hS1⟩
  · rw [hf]
    refine brc_false rfl ?_
    obtain ⟨A, r, B, hfs, hA, hp, hfa, hr⟩ := hD1.file (hD1.now.ids n i hi)
    simp only [Option.bind_some, hp]
    have hS2 : Sep E w1 (fChunk r :: (dChunk M.ready.2 d D.mn D.mq D.cs :: strM D.mn D.ln D.cn :: strM D.mq D.lk D.ck :: (D.CC ++ (A.map fChunk ++ B.map fChunk)) ++ L)) := by
      refine hS1.weak ?_
      intro f
      simp only [DS.chunks, hfs, ms_append, ms_cons, ms_nil, List.map_append, List.map_cons, List.map_nil]
      omega
    have hsz := (hD1.bytes r hr).size
    refine ⟨r.s, hS2.load (o := 0) List.mem_cons_self rfl (by kernel_rfl), ?_⟩
    obtain ⟨w2, h2, hS3⟩ := hS2.store (o := 1) (n := 1) (v := .int .i64 ((r.s.len : Nat) : Int)) (t := 3) (by kernel_rfl) rfl (by simp) (by simp [Value.cells, Value.oneCell'])
    refine ⟨w2, h2, _, by trivial, hA ▸ hD1.turn hfs (s := r.s) (fun f => ⟨f.bytes, f.bytes.length⟩) (hD1.bytes r hr), ?_⟩
    rw [hsz] at hS3
    have hS3' : Sep E w2 (fChunk ⟨r.b, r.s, ⟨r.f.bytes, r.f.bytes.length⟩⟩ :: (dChunk M.ready.2 d D.mn D.mq D.cs :: strM D.mn D.ln D.cn :: strM D.mq D.lk D.ck :: (D.CC ++ (A.map fChunk ++ B.map fChunk)) ++ L)) := hS3
    refine hS3'.weak ?_
    intro f
    simp only [DS.chunks, dChunk_set, ms_append, ms_cons, ms_nil, List.map_append, List.map_cons, List.map_nil]
    omega

/-- Read. -/
theorem k28 {E w : World} {L I : List Chunk} {M : MDisk} {D : DS} {d : Nat} (hl : M.left ≤ 9223372036854775807) (hS : Sep E w (D.chunks M d ++ L)) (hD : DRep D M I) (hI : ∀ c ∈ I, c ∈ L) (n : ByteArray) (hb : ∀ f ∈ M.files, f.bytes.length ≤ 1099511627776) :
    Calls Pr 28 #[.pointer (some ⟨d, 0, none⟩), .string n] w fun e w' => ∃ (s : SV) (C : List Chunk), e = .returned (.tuple #[.slice s.a s.len s.cap, .int .i64 (M.read n).1]) ∧ RdB C s (M.read n).2.1 ∧ (M.read n).2.2 = M.ready.2 ∧ DRep D (M.read n).2.2 I ∧ Sep E w' (D.chunks (M.read n).2.2 d ++ (C ++ L)) := by
  refine call28 ?_
  unfold ir28
  refine (k87 hl hS hD n).mono ?_
  rintro _ w1 ⟨rfl, hS1⟩
  have hD1 := hD.ready
  have hst := ready_same M
  refine ⟨_, _, rfl, ?_⟩
  unfold MDisk.read
  rcases find_cases M n with ⟨e, he, hf⟩ | ⟨i, hf, hi⟩
  · rw [hf]
    exact brc_true (by simpa using he) ⟨SV.nil, [], rfl, RdS.none _ _, rfl, hD1, hS1⟩
  · rw [hf]
    refine brc_false rfl ?_
    obtain ⟨A, r, B, hfs, hA, hp, hfa, hr⟩ := hD1.file (hD1.now.ids n i hi)
    simp only [Option.bind_some, hp, hfa]
    have hm : fChunk r ∈ D.chunks M.ready.2 d ++ L := by simp [DS.chunks, hfs]
    refine ⟨r.s, hS1.load (o := 0) hm rfl (by kernel_rfl), ?_⟩
    have hbr : r.f.bytes.length ≤ 1099511627776 := by
      refine hb r.f ?_
      rw [← hst.1, ← hD1.files]
      exact List.mem_map.2 ⟨r, hr, rfl⟩
    refine (k88 hS1 (((hD1.bytes r hr).mono hI).right _) hbr).mono ?_
    rintro _ w2 ⟨s2, C, rfl, ho, hS2⟩
    exact ⟨s2, rfl, s2, C, by trivial, ho.rds, by trivial, hD1, hS2.weak (by intro f; simp only [ms_append, ms_cons, ms_nil]; omega)⟩

end Go.Proofs.Ytonjaaljnjjjcaa

/- The program's disk: a new one, names kept, how many bytes there are, bytes put behind a file's. Conditions: as each lemma says. -/
set_option linter.unusedVariables false
set_option linter.unusedSimpArgs false
namespace Go.Proofs.Ytonjaaljnjjjcaa
open Go Go.RowKit

/-- maps.Clone. -/
theorem k108 {E w : World} {L : List Chunk} {m c : Nat} {l : List (Ent ByteArray)} (hS : Sep E w L) (hm : strM m l c ∈ L) :
    Calls Pr 108 #[.map (some m)] w fun e w' => ∃ m', e = .returned (.map (some m')) ∧ Sep E w' (strM m' l c :: L) := by
  refine call108 ?_
  unfold ir108
  refine ⟨false, ?_, brc_false rfl ⟨.iface 137 (.map (some m)), ?_, ?_⟩⟩
  · unfold At
    have h : ∀ d, (Op.equalIn (d + 1) 137 (.map (some m)) (.map none)).run Pr w = .ok false w := fun d => by
      simp [Op.equalIn, run_underlying u137]
    have h' : (Op.equal 137 (.map (some m)) (.map none)).run Pr w = .ok false w := h 9999
    simp [eqGuard, binOp, h']
  · unfold At
    simp [Instr.makeInterface, run_underlying u137]
  · have hb : w.heap[m]? = some (.map (l.map (Ent.me Value.string)).toArray c) := hS.at_ _ hm
    unfold Does
    rw [run_callFunc_extern (P := Pr) (f := 145) (fn := Try.f145) (e := Extern.MapsClone.clone) Try.func145 (by kernel_rfl) (by kernel_rfl) (by kernel_rfl) (by kernel_rfl)]
    have hrun : (Extern.MapsClone.clone #[.iface 137 (.map (some m))]).run Pr w = .ok (.iface 137 (.map (some w.heap.size))) { w with heap := w.heap.push (.map (l.map (Ent.me Value.string)).toArray c) } := by
      have hc : Extern.MapsClone.clone #[.iface 137 (.map (some m))] = (do
          let .map entries clock ← getObj m | stuck "maps.clone: a map expected"
          pure (.iface 137 (.map (some (← newObj (.map entries clock)))))) := rfl
      rw [hc]
      simp only [Sem.run_bind, run_getObj_map hb, Result.andThen_ok, run_newObj, Sem.run_pure]
    rw [hrun]
    refine ⟨some w.heap.size, ?_, w.heap.size, rfl, hS.push _⟩
    unfold At
    simp [Instr.typeAssert, run_underlying u137]

theorem k25 {E w : World} {L : List Chunk} (hS : Sep E w L) (room : Int) :
    Calls Pr 25 #[.int .i64 room] w fun e w' => ∃ (d : Nat) (D : DS), e = .returned (.pointer (some ⟨d, 0, none⟩)) ∧ DRep D (MDisk.new room) [] ∧ Sep E w' (D.chunks (MDisk.new room) d ++ L) := by
  refine call25 ?_
  unfold ir25
  obtain ⟨m1, w1, h1, hS1⟩ := hS.makeMap (kv := Value.string) 137
  obtain ⟨m2, w2, h2, hS2⟩ := hS1.makeMap (kv := Value.string) 137
  refine ⟨m1, w1, h1, m2, w2, h2, ?_⟩
  have hr : (if 0 > room then 0 else room) = ((room.toNat : Nat) : Int) := by split <;> omega
  rw [hr]
  obtain ⟨d, w3, h3, hS3⟩ := hS2.newVar (t := 140) (v := .agg #[.map (some m1), .map (some m2), .slice none 0 0, .int .i64 ((room.toNat : Nat) : Int), .bool false, .bool false, .int .i64 0])
  refine ⟨_, w3, h3, d, ⟨[], m1, m2, [], [], 0, 0, SV.nil, []⟩, rfl, ?_, ?_⟩
  · have hn : NameRep [] [] [] 0 := ⟨MapWf.nil _, fun k => rfl, fun k i h => by simp [findN] at h, List.Pairwise.nil⟩
    exact ⟨rfl, by simp, hn, hn, Own.nil _ _, by simp [MDisk.new]⟩
  · have hS3' : Sep E w3 (dChunk (MDisk.new room) d m1 m2 SV.nil :: strM m2 [] 0 :: strM m1 [] 0 :: L) := hS3
    exact hS3'.weak (by intro f; simp only [DS.chunks, ms_append, ms_cons, ms_nil, List.map_nil]; omega)

/-- SyncNames. -/
theorem k55 {E w : World} {L I : List Chunk} {M : MDisk} {D : DS} {d : Nat} (hl : M.left ≤ 9223372036854775807) (hS : Sep E w (D.chunks M d ++ L)) (hD : DRep D M I) :
    Calls Pr 55 #[.pointer (some ⟨d, 0, none⟩)] w fun e w' => ∃ (D' : DS) (C : List Chunk), e = .returned (.int .i64 M.syncNames.1) ∧ DRep D' M.syncNames.2 I ∧ Sep E w' (D'.chunks M.syncNames.2 d ++ (C ++ L)) := by
  refine call55 ?_
  unfold ir55
  refine (k91 (L := _) hl hS).mono ?_
  rintro _ w1 ⟨rfl, hS1⟩
  have hS1 : Sep E w1 (D.chunks M.ready.2 d ++ L) := hS1
  have hD1 := hD.ready
  refine ⟨M.ready.1, rfl, brc_intro (fun h => ?_) (fun h => ?_)⟩
  · have h : M.ready.1 ≠ 0 := by simpa using h
    have hf : M.syncNames = M.ready := by simp [MDisk.syncNames, h]
    rw [hf]
    exact ⟨D, [], rfl, hD1, hS1⟩
  have h : M.ready.1 = 0 := by simpa using h
  have hf : M.syncNames = (0, { M.ready.2 with kept := M.ready.2.now, changes := [] }) := by simp [MDisk.syncNames, h]
  rw [hf]
  refine ⟨some D.mn, hS1.load (o := 0) List.mem_cons_self rfl (by kernel_rfl), (k108 hS1 (List.mem_cons_of_mem _ List.mem_cons_self)).mono ?_⟩
  rintro _ w2 ⟨m', rfl, hS2⟩
  refine ⟨some m', rfl, ?_⟩
  have hS2' : Sep E w2 (dChunk M.ready.2 d D.mn D.mq D.cs :: (strM m' D.ln D.cn :: (strM D.mn D.ln D.cn :: strM D.mq D.lk D.ck :: (D.CC ++ D.fs.map fChunk) ++ L))) := hS2.weak (by intro f; simp only [DS.chunks, ms_append, ms_cons, ms_nil]; omega)
  obtain ⟨w3, h3, hS3⟩ := hS2'.store (o := 1) (n := 1) (v := .map (some m')) (t := 137) (by kernel_rfl) rfl (by simp) (by simp [Value.cells, Value.oneCell'])
  refine ⟨w3, h3, ?_⟩
  have hS3' : Sep E w3 (dChunk M.ready.2 d D.mn m' D.cs :: (strM m' D.ln D.cn :: (strM D.mn D.ln D.cn :: strM D.mq D.lk D.ck :: (D.CC ++ D.fs.map fChunk) ++ L))) := hS3
  obtain ⟨w4, h4, hS4⟩ := hS3'.store (o := 2) (n := 1) (v := .slice none 0 0) (t := 138) (by kernel_rfl) rfl (by simp) (by simp [Value.cells, Value.oneCell'])
  refine ⟨w4, h4, { D with mq := m', lk := D.ln, ck := D.cn, cs := SV.nil, CC := [] }, [], rfl, ?_, ?_⟩
  · exact ⟨hD1.files, hD1.bytes, hD1.now, hD1.now, Own.nil _ _, by simp⟩
  · have hS4' : Sep E w4 (dChunk { M.ready.2 with kept := M.ready.2.now, changes := [] } d D.mn m' SV.nil :: (strM m' D.ln D.cn :: (strM D.mn D.ln D.cn :: strM D.mq D.lk D.ck :: (D.CC ++ D.fs.map fChunk) ++ L))) := hS4
    exact hS4'.weak (by intro f; simp only [DS.chunks, ms_append, ms_cons, ms_nil]; omega)

end Go.Proofs.Ytonjaaljnjjjcaa

/- The program's disk: how many bytes there are. Conditions: as each lemma says. -/
set_option linter.unusedVariables false
set_option linter.unusedSimpArgs false
namespace Go.Proofs.Ytonjaaljnjjjcaa
open Go Go.RowKit

/-! ### Entries that a range has seen -/
section
variable {K : Type}

theorem ms_seen (g : Ent K → Nat) (seen : List Nat) : ∀ (l : List (Ent K)) (e : Ent K), e ∈ l → (l.map (·.born)).Nodup → e.born ∉ seen →
    ms (fun x => if x.born ∈ seen ++ [e.born] then g x else 0) l = ms (fun x => if x.born ∈ seen then g x else 0) l + g e
  | [], _, h, _, _ => by cases h
  | x :: l, e, h, hn, hs => by
    rw [List.map_cons, List.nodup_cons] at hn
    have hrest : e ∉ l ∨ True := .inr trivial
    rcases List.mem_cons.1 h with rfl | h'
    · have hl : ms (fun x => if x.born ∈ seen ++ [e.born] then g x else 0) l = ms (fun x => if x.born ∈ seen then g x else 0) l := by
        have : ∀ l' : List (Ent K), (∀ y ∈ l', y.born ≠ e.born) → ms (fun x => if x.born ∈ seen ++ [e.born] then g x else 0) l' = ms (fun x => if x.born ∈ seen then g x else 0) l' := by
          intro l'
          induction l' with
          | nil => intro _; rfl
          | cons y l' ih =>
            intro hy
            have h1 := hy y List.mem_cons_self
            rw [ms_cons, ms_cons, ih fun z hz => hy z (List.mem_cons_of_mem _ hz)]
            simp [h1]
        exact this l fun y hy e' => hn.1 (e' ▸ List.mem_map.2 ⟨y, hy, rfl⟩)
      rw [ms_cons, ms_cons, hl]
      simp [hs]
      omega
    · have hne : x.born ≠ e.born := fun e' => hn.1 (e' ▸ List.mem_map.2 ⟨e, h', rfl⟩)
      rw [ms_cons, ms_cons, ms_seen g seen l e h' hn.2 hs]
      simp [hne]
      omega

def cnt (seen : List Nat) (l : List (Ent K)) : Nat := ms (fun x => if x.born ∈ seen then 1 else 0) l
theorem ms_le_len (f : Ent K → Nat) (h : ∀ x, f x ≤ 1) : ∀ l : List (Ent K), ms f l ≤ l.length
  | [] => Nat.le_refl _
  | x :: l => by
    have h1 := h x
    have h2 := ms_le_len f h l
    rw [ms_cons, List.length_cons]
    omega
theorem cnt_le (seen : List Nat) (l : List (Ent K)) : cnt seen l ≤ l.length := ms_le_len _ (fun x => by split <;> omega) l
theorem cnt_step {seen : List Nat} {l : List (Ent K)} {e : Ent K} (h : e ∈ l) (hn : (l.map (·.born)).Nodup) (hs : e.born ∉ seen) : l.length - cnt (seen ++ [e.born]) l < l.length - cnt seen l := by
  have h1 := ms_seen (fun _ => 1) seen l e h hn hs
  have h2 := cnt_le (seen ++ [e.born]) l
  unfold cnt at h2 ⊢
  omega
end

section
variable {K : Type} [DecidableEq K]

theorem getE_mem {l : List (Ent K)} (hn : (l.map (·.k)).Nodup) {e : Ent K} (h : e ∈ l) : getE e.k l = some e.v := by
  induction l with
  | nil => cases h
  | cons x l ih =>
    rw [List.map_cons, List.nodup_cons] at hn
    unfold getE
    rcases List.mem_cons.1 h with rfl | h'
    · simp
    · have hne : ¬ x.k = e.k := fun e' => hn.1 (e' ▸ List.mem_map.2 ⟨e, h', rfl⟩)
      rw [if_neg hne]
      exact ih hn.2 h'

theorem mem_of_getE {l : List (Ent K)} {k : K} {v : Value} (h : getE k l = some v) : ∃ e ∈ l, e.k = k ∧ e.v = v := by
  induction l with
  | nil => simp [getE] at h
  | cons x l ih =>
    unfold getE at h
    split at h
    · rename_i hx
      simp only [Option.some.injEq] at h
      exact ⟨x, List.mem_cons_self, hx, h⟩
    · obtain ⟨e, he, h1⟩ := ih h
      exact ⟨e, List.mem_cons_of_mem _ he, h1⟩

theorem getE_isSome {l : List (Ent K)} {k : K} : (getE k l).isSome ↔ k ∈ l.map (·.k) := by
  constructor
  · intro h
    obtain ⟨v, hv⟩ := Option.isSome_iff_exists.1 h
    obtain ⟨e, he, h1, _⟩ := mem_of_getE hv
    exact List.mem_map.2 ⟨e, he, h1⟩
  · intro h
    cases hg : getE k l with
    | some v => rfl
    | none =>
      obtain ⟨e, he, rfl⟩ := List.mem_map.1 h
      exact absurd rfl (getE_none.1 hg e he)
end

theorem NameRep.ent {bs : List Nat} {nm : Names} {l : List (Ent ByteArray)} {c : Nat} (h : NameRep bs nm l c) {e : Ent ByteArray} (he : e ∈ l) : ∃ i, findN e.k nm = some i ∧ i < bs.length ∧ e.v = .pointer (filePtr bs i) := by
  have h1 := getE_mem h.wf.keys he
  rw [h.get] at h1
  cases hf : findN e.k nm with
  | none => rw [hf] at h1; cases h1
  | some i =>
    rw [hf] at h1
    simp only [Option.map_some, Option.some.injEq] at h1
    exact ⟨i, rfl, h.ids _ _ hf, h1.symm⟩

/-- An element of a slice of structs. -/
theorem RdS.idxS {I : List Chunk} {sz : Nat} {s : SV} {xs : List Value} (h : RdS I sz s xs) {i : Nat} (hi : i < s.len) (hsz : 0 < sz) {E w : World} {L : List Chunk} (hS : Sep E w L) (hI : ∀ c ∈ I, c ∈ L) {t : TypeId} (ht : structT Pr t = true) (hn : sizeOf? Pr t = some sz) :
    ∃ a, s.a = some a ∧ At Pr w (loadVar t (a.add (i * sz))) (.agg ((xs.drop (i * sz)).take sz).toArray) := by
  cases ha : s.a with
  | none => have h0 := h.nil ha; omega
  | some a =>
    refine ⟨a, rfl, ?_⟩
    obtain ⟨b, o, sp⟩ := a
    rcases h.at_ _ ha with h0 | ⟨h1, cs, T, fr, hc, hv⟩
    · omega
    · simp only at h1
      subst h1
      rw [addr_add]
      have hlen := h.len
      have hbound : (i + 1) * sz ≤ s.len * sz := Nat.mul_le_mul_right _ (by omega)
      rw [Nat.succ_mul] at hbound
      have hcs : o + xs.length ≤ cs.size := by
        refine Classical.byContradiction fun hn => ?_
        have hx : xs.length - 1 < xs.length := by omega
        have := hv (xs.length - 1) xs[xs.length - 1] (by simp [hx])
        have h3 := (Array.getElem?_eq_some_iff.1 this).1
        simp only at h3
        omega
      refine hS.loadS (hI _ hc) ht hn ?_ (by omega)
      apply List.ext_getElem?
      intro j
      rw [List.getElem?_take, List.getElem?_take]
      split
      · rename_i hj
        rw [List.getElem?_drop, List.getElem?_drop]
        have hx : i * sz + j < xs.length := by omega
        have := hv (i * sz + j) xs[i * sz + j] (by simp [hx])
        simp only at this
        rw [← Nat.add_assoc] at this
        simpa [hx] using this
      · rfl

theorem chV_at (bs : List Nat) : ∀ (l : List MChange) (i : Nat) (c : MChange), l[i]? = some c → ((l.flatMap (chV bs)).drop (i * 3)).take 3 = chV bs c
  | [], _, _, h => by simp at h
  | x :: l, 0, c, h => by
    simp at h
    subst h
    simp [chV]
  | x :: l, i + 1, c, h => by
    have h' : l[i]? = some c := by simpa using h
    have := chV_at bs l i c h'
    rw [← this]
    have e : (i + 1) * 3 = i * 3 + 3 := by omega
    rw [e]
    simp [chV]

/-! ### What is held -/
theorem bs_nodup : ∀ {fs : List FRec}, (∀ b, ms (at1 b) (fs.map fChunk) ≤ 1) → (fs.map (·.b)).Nodup
  | [], _ => List.nodup_nil
  | r :: fs, h => by
    rw [List.map_cons, List.nodup_cons]
    refine ⟨fun hm => ?_, bs_nodup fun b => ?_⟩
    · obtain ⟨r', hr', he⟩ := List.mem_map.1 hm
      have h1 := h r.b
      have h2 := ms_pos (f := at1 r.b) (List.mem_map.2 ⟨r', hr', rfl⟩ : fChunk r' ∈ fs.map fChunk)
      rw [List.map_cons, ms_cons] at h1
      have e1 : at1 r.b (fChunk r) = 1 := by simp [at1, fChunk]
      have e2 : at1 r.b (fChunk r') = 1 := by simp [at1, fChunk, he]
      omega
    · have := h b
      rw [List.map_cons, ms_cons] at this
      omega

theorem DS.nodup {E w : World} {L : List Chunk} {M : MDisk} {D : DS} {d : Nat} (hS : Sep E w (D.chunks M d ++ L)) : D.bs.Nodup := by
  refine bs_nodup fun b => ?_
  have := hS.uniq b
  simp only [DS.chunks, ms_append, ms_cons, ms_nil] at this
  omega

theorem filePtr_inj {bs : List Nat} (hn : bs.Nodup) {i j : Nat} (hi : i < bs.length) (h : filePtr bs i = filePtr bs j) : i = j := by
  rw [filePtr_some hi] at h
  unfold filePtr at h
  cases hj : bs[j]? with
  | none => rw [hj] at h; cases h
  | some b =>
    rw [hj] at h
    simp only [Option.map_some, Option.some.injEq, Addr.mk.injEq, and_true] at h
    subst h
    obtain ⟨hj1, hj2⟩ := List.getElem?_eq_some_iff.1 hj
    rcases Nat.lt_trichotomy i j with hlt | h | hgt
    · exact absurd hj2.symm (List.pairwise_iff_getElem.1 hn i j hi hj1 hlt)
    · exact h
    · exact absurd hj2 (List.pairwise_iff_getElem.1 hn j i hj1 hi hgt)

/-- The bytes of a block's file. -/
def lenAt : List FRec → Nat → Nat
  | [], _ => 0
  | r :: fs, b => if r.b = b then r.f.bytes.length else lenAt fs b

theorem lenAt_of {fs : List FRec} {r : FRec} (hn : (fs.map (·.b)).Nodup) (h : r ∈ fs) : lenAt fs r.b = r.f.bytes.length := by
  induction fs with
  | nil => cases h
  | cons x fs ih =>
    rw [List.map_cons, List.nodup_cons] at hn
    unfold lenAt
    rcases List.mem_cons.1 h with rfl | h'
    · simp
    · have : ¬ x.b = r.b := fun e => hn.1 (e ▸ List.mem_map.2 ⟨r, h', rfl⟩)
      rw [if_neg this]
      exact ih hn.2 h'

/-- A sum over blocks, each once, is the sum over the files that are among them. -/
theorem sum_held (fs : List FRec) (hn : (fs.map (·.b)).Nodup) (ks : List Nat) (hk : ks.Nodup) (hs : ∀ b ∈ ks, b ∈ fs.map (·.b)) : ms (lenAt fs) ks = ms (fun r => if r.b ∈ ks then r.f.bytes.length else 0) fs := by
  have hp : ks.Perm ((fs.map (·.b)).filter fun b => decide (b ∈ ks)) := by
    rw [List.perm_ext_iff_of_nodup hk (hn.filter _)]
    intro b
    rw [List.mem_filter]
    constructor
    · intro h
      exact ⟨hs b h, by simpa using h⟩
    · rintro ⟨_, h⟩
      simpa using h
  rw [ms_perm _ hp]
  have key : ∀ gs : List FRec, (∀ r ∈ gs, r ∈ fs) → ms (lenAt fs) ((gs.map (·.b)).filter fun b => decide (b ∈ ks)) = ms (fun r => if r.b ∈ ks then r.f.bytes.length else 0) gs := by
    intro gs
    induction gs with
    | nil => intro _; rfl
    | cons r gs ih =>
      intro h
      have hr := h r List.mem_cons_self
      have hrest := ih fun x hx => h x (List.mem_cons_of_mem _ hx)
      rw [List.map_cons, List.filter_cons, ms_cons, ← hrest]
      by_cases hb : r.b ∈ ks
      · simp only [hb, decide_true, if_true, ms_cons, lenAt_of hn hr]
      · simp [hb]
  exact key fs fun r hr => hr

theorem usedTo_ms (M : MDisk) : ∀ (fs : List FRec) (i : Nat) (p : FRec → Prop) [DecidablePred p], (∀ (j : Nat) (r : FRec), fs[j]? = some r → (p r ↔ M.holds (i + j) = true)) → M.usedTo i (fs.map (·.f)) = ms (fun r => if p r then r.f.bytes.length else 0) fs
  | [], _, _, _, _ => rfl
  | r :: fs, i, p, _, h => by
    have h0 : p r ↔ M.holds i = true := h 0 r rfl
    have hr := usedTo_ms M fs (i + 1) p fun j r' hr' => by
      have := h (j + 1) r' (by simpa using hr')
      rw [show i + 1 + j = i + (j + 1) by omega]
      exact this
    rw [List.map_cons, MDisk.usedTo, hr, ms_cons]
    by_cases hp : p r
    · rw [if_pos hp, if_pos (h0.1 hp)]
    · rw [if_neg hp, if_neg fun e => hp (h0.2 e)]

theorem holds_iff (M : MDisk) (i : Nat) : M.holds i = true ↔ (∃ x ∈ M.kept, x.2 = i) ∨ ∃ c ∈ M.changes, c.new ≠ noName ∧ c.file = i := by
  simp [MDisk.holds, List.any_eq_true]

end Go.Proofs.Ytonjaaljnjjjcaa

/- The program's disk: Used, Append. Conditions: as each lemma says. -/
set_option linter.unusedVariables false
set_option linter.unusedSimpArgs false
namespace Go.Proofs.Ytonjaaljnjjjcaa
open Go Go.RowKit

theorem u160 : Pr.underlying 160 = some (.map 141 4) := by kernel_rfl
theorem u141 : Pr.underlying 141 = some (.pointer 146) := by kernel_rfl
theorem s146 : sizeOf? Pr 146 = some (1 + 1) := by kernel_rfl
theorem z153 : (Pr.info? 153).bind (·.zero) = some (.agg #[.string ByteArray.empty, .string ByteArray.empty, .pointer none]) := by kernel_rfl

theorem setE_mem {K : Type} [DecidableEq K] (k : K) (v : Value) (c : Nat) (l : List (Ent K)) (j : K) : j ∈ (setE k v c l).map (·.k) ↔ j ∈ l.map (·.k) ∨ j = k := by
  rw [setE_keys]
  split
  · rename_i h
    rw [getE_isSome] at h
    constructor
    · exact .inl
    · rintro (h' | rfl)
      · exact h'
      · exact h
  · simp

theorem setE_vals {K : Type} [DecidableEq K] (k : K) (v : Value) (c : Nat) : ∀ (l : List (Ent K)), (∀ e ∈ l, e.v = v) → ∀ e ∈ setE k v c l, e.v = v
  | [], _, e, he => by
    simp [setE] at he
    rw [he]
  | x :: l, h, e, he => by
    unfold setE at he
    split at he
    · rcases List.mem_cons.1 he with rfl | he
      · rfl
      · exact h e (List.mem_cons_of_mem _ he)
    · rcases List.mem_cons.1 he with rfl | he
      · exact h _ List.mem_cons_self
      · exact setE_vals k v c l (fun y hy => h y (List.mem_cons_of_mem _ hy)) e he

theorem born_inj {K : Type} : ∀ {l : List (Ent K)}, (l.map (·.born)).Nodup → ∀ {e e' : Ent K}, e ∈ l → e' ∈ l → e.born = e'.born → e = e'
  | [], _, _, _, h, _, _ => by cases h
  | x :: l, hn, e, e', h, h', hb => by
    rw [List.map_cons, List.nodup_cons] at hn
    rcases List.mem_cons.1 h with h1 | h1
    · rcases List.mem_cons.1 h' with h2 | h2
      · rw [h1, h2]
      · exact absurd (List.mem_map.2 ⟨e', h2, by rw [← hb, h1]⟩) hn.1
    · rcases List.mem_cons.1 h' with h2 | h2
      · exact absurd (List.mem_map.2 ⟨e, h1, by rw [hb, h2]⟩) hn.1
      · exact born_inj hn.2 h1 h2 hb

theorem ms_mono {α : Type} {f g : α → Nat} (h : ∀ x, f x ≤ g x) : ∀ l : List α, ms f l ≤ ms g l
  | [] => Nat.le_refl _
  | x :: l => by
    have h1 := h x
    have h2 := ms_mono h l
    rw [ms_cons, ms_cons]
    omega
theorem ms_map {α β : Type} (f : β → Nat) (g : α → β) : ∀ l : List α, ms f (l.map g) = ms (fun x => f (g x)) l
  | [] => rfl
  | x :: l => by rw [List.map_cons, ms_cons, ms_cons, ms_map f g l]
theorem ms_congr {α : Type} {f g : α → Nat} : ∀ {l : List α}, (∀ x ∈ l, f x = g x) → ms f l = ms g l
  | [], _ => rfl
  | x :: l, h => by rw [ms_cons, ms_cons, h x List.mem_cons_self, ms_congr fun y hy => h y (List.mem_cons_of_mem _ hy)]


abbrev setM (m : Nat) (l : List (Ent Nat)) (c : Nat) : Chunk := mapC ptrV m l c

theorem DS.dmem (D : DS) (M : MDisk) (d : Nat) (L : List Chunk) : dChunk M d D.mn D.mq D.cs ∈ D.chunks M d ++ L := by simp [DS.chunks]

/-- Put into a set of files. -/
theorem Sep.put {E w : World} {L : List Chunk} {M : MDisk} {D : DS} {d m c : Nat} {l : List (Ent Nat)} {G : List Chunk} (hS : Sep E w (setM m l c :: (G ++ (D.chunks M d ++ L)))) (hw : MapWf l c) (hk : ∀ b ∈ l.map (·.k), b ∈ D.bs) (hv : ∀ e ∈ l, e.v = .bool true) {b : Nat} (hb : b ∈ D.bs) :
    ∃ w' l' c', Sem.run Pr (Instr.mapUpdate 160 (.map (some m)) (.pointer (some ⟨b, 0, none⟩)) (.bool true)) w = .ok () w' ∧ MapWf l' c' ∧ (∀ e ∈ l', e.v = .bool true) ∧ (∀ j, j ∈ l'.map (·.k) ↔ j ∈ l.map (·.k) ∨ j = b) ∧ Sep E w' (setM m l' c' :: (G ++ (D.chunks M d ++ L))) := by
  have hpl : ∀ b ∈ D.bs, Plain w b := fun b hb => by
    obtain ⟨r, hr, rfl⟩ := List.mem_map.1 hb
    have : fChunk r ∈ setM m l c :: (G ++ (D.chunks M d ++ L)) := by
      simp only [DS.chunks, List.mem_cons, List.mem_append, List.mem_map]
      exact .inr (.inr (.inl (.inr (.inr (.inr (.inr ⟨r, hr, rfl⟩))))))
    exact hS.plain this
  obtain ⟨w', h1, h2⟩ := hS.mapUpdate (mt := 160) u160 (.bool true) (keyOk_ptr u141 s146 (hpl b hb) fun x hx => hpl _ (hk _ (List.mem_map.2 ⟨x, hx, rfl⟩)))
  exact ⟨w', _, _, h1, hw.set b _, setE_vals _ _ _ _ hv, fun j => setE_mem _ _ _ _ _, h2⟩

/-- Used. -/
theorem k40 {E w : World} {L I : List Chunk} {M : MDisk} {D : DS} {d : Nat} (hS : Sep E w (D.chunks M d ++ L)) (hD : DRep D M I) (hT : M.total ≤ 1099511627776) (hc : M.changes.length ≤ 1099511627776) :
    Calls Pr 40 #[.pointer (some ⟨d, 0, none⟩)] w fun e w' => ∃ C : List Chunk, e = .returned (.int .i64 ((M.used : Nat) : Int)) ∧ Sep E w' (C ++ (D.chunks M d ++ L)) := by
  refine call40 ?_
  unfold ir40
  refine brc_false rfl ?_
  obtain ⟨m1, w1, h1, hS1⟩ := hS.makeMap (kv := ptrV) 160
  refine ⟨m1, w1, h1, some D.mq, hS1.load (o := 1) (List.mem_cons_of_mem _ (D.dmem M d L)) rfl (by kernel_rfl), ?_⟩
  have hmk : strM D.mq D.lk D.ck ∈ mapC ptrV m1 [] 0 :: (D.chunks M d ++ L) := by simp [DS.chunks]
  obtain ⟨it, w2, h2, hS2⟩ := hS1.range (mt := 137) hmk u137
  refine ⟨_, w2, h2, ?_⟩
  have hnod := DS.nodup hS
  -- the kept names
  refine ⟨fun n _ w3 => ∃ (seen : List Nat) (lu : List (Ent Nat)) (cu : Nat), n = D.lk.length - cnt seen D.lk ∧ MapWf lu cu ∧ (∀ e ∈ lu, e.v = .bool true) ∧ (∀ b, b ∈ lu.map (·.k) ↔ ∃ e ∈ D.lk, e.born ∈ seen ∧ e.v = .pointer (some ⟨b, 0, none⟩)) ∧ Sep E w3 (iterC it D.mq D.ck seen :: setM m1 lu cu :: (D.chunks M d ++ L)), _, ⟨[], [], 0, rfl, MapWf.nil _, by simp, by simp, hS2⟩, ?_⟩
  rintro n _ w3 ⟨seen, lu, cu, rfl, hwu, hvu, hku, hS3⟩ _
  have hkb : ∀ b ∈ lu.map (·.k), b ∈ D.bs := fun b hb => by
    obtain ⟨e, he, _, hv⟩ := (hku b).1 hb
    obtain ⟨i, hf, hi, hv'⟩ := hD.kept.ent he
    rw [hv, filePtr_some hi] at hv'
    simp only [Value.pointer.injEq, Option.some.injEq, Addr.mk.injEq, and_true] at hv'
    rw [hv']
    exact List.getElem_mem hi
  refine hS3.next (m := D.mq) (l := D.lk) (kv := Value.string) (by simp [DS.chunks]) hD.kept.wf.born (fun hall => ?_) (fun e he hes w4 hS4 => ?_)
  · -- the changes
    refine ⟨D.cs, hS3.load (o := 2) (List.mem_cons_of_mem _ (List.mem_cons_of_mem _ (D.dmem M d L))) rfl (by kernel_rfl), ?_⟩
    have hlen : D.cs.len = M.changes.length := by
      have := hD.own.len
      rw [chV_len] at this
      omega
    refine ⟨fun n σ w4 => ∃ (k : Nat) (lu : List (Ent Nat)) (cu : Nat) (G : List Chunk), k ≤ M.changes.length ∧ n = M.changes.length - k ∧ σ = ((k : Int), ()) ∧ MapWf lu cu ∧ (∀ e ∈ lu, e.v = .bool true) ∧ (∀ b, b ∈ lu.map (·.k) ↔ (∃ e ∈ D.lk, e.v = .pointer (some ⟨b, 0, none⟩)) ∨ ∃ c ∈ M.changes.take k, c.new ≠ noName ∧ filePtr D.bs c.file = some ⟨b, 0, none⟩) ∧ Sep E w4 (setM m1 lu cu :: (G ++ (D.chunks M d ++ L))), M.changes.length, ⟨0, lu, cu, [iterC it D.mq D.ck seen], Nat.zero_le _, rfl, rfl, hwu, hvu, fun b => ?_, hS3.weak (by intro f; simp only [ms_append, ms_cons, ms_nil]; omega)⟩, ?_⟩
    · rw [hku b]
      simp only [List.take_zero, List.not_mem_nil, false_and, exists_false, or_false]
      exact ⟨fun ⟨e, h1, _, h2⟩ => ⟨e, h1, h2⟩, fun ⟨e, h1, h2⟩ => ⟨e, h1, hall e h1, h2⟩⟩
    rintro n σ w4 ⟨k, lu, cu, G, hk, rfl, rfl, hwu, hvu, hku, hS4⟩ _
    dsimp only
    have hkb : ∀ b ∈ lu.map (·.k), b ∈ D.bs := fun b hb => by
      rcases (hku b).1 hb with ⟨e, he, hv⟩ | ⟨c, hcm, hcn, hv⟩
      · obtain ⟨i, hf, hi, hv'⟩ := hD.kept.ent he
        rw [hv, filePtr_some hi] at hv'
        simp only [Value.pointer.injEq, Option.some.injEq, Addr.mk.injEq, and_true] at hv'
        rw [hv']
        exact List.getElem_mem hi
      · have hi := hD.chOk c (List.mem_of_mem_take hcm) hcn
        rw [filePtr_some hi] at hv
        simp only [Option.some.injEq, Addr.mk.injEq, and_true] at hv
        rw [← hv]
        exact List.getElem_mem hi
    refine brc_intro (fun h => ?_) (fun h => ?_)
    · have h : k < M.changes.length := by simp at h; omega
      refine ⟨⟨by omega, by omega⟩, ?_⟩
      obtain ⟨a, ha, hat⟩ := hD.own.rds.idxS (i := k) (by omega) (by decide) hS4 (fun c hc => by simp [DS.chunks, hc]) (t := 153) (by kernel_rfl) (by kernel_rfl)
      rw [ha, chV_at D.bs M.changes k M.changes[k] (by simp [h])] at *
      refine ⟨M.changes[k].gone, M.changes[k].new, _, by simpa [chV] using hat, ?_⟩
      generalize hp : (if M.changes[k].new = noName then none else filePtr D.bs M.changes[k].file) = p
      obtain ⟨b, w5, h5, hS5⟩ := hS4.alloc (t := 153) z153
      refine ⟨_, w5, h5, ?_⟩
      obtain ⟨w6, h6, hS6⟩ := hS5.store (o := 0) (n := 3) (v := .agg #[.string M.changes[k].gone, .string M.changes[k].new, .pointer p]) (t := 153) (by kernel_rfl) rfl (by simp) (by simp [Value.cells, Value.oneCell'])
      refine ⟨w6, h6, M.changes[k].new, hS6.load (o := 1) List.mem_cons_self rfl (by kernel_rfl), ?_⟩
      have ht : M.changes.take (k + 1) = M.changes.take k ++ [M.changes[k]] := by rw [List.take_add_one]; simp [h]
      rw [ba_ne]
      refine brc_intro (fun hn => ?_) (fun hn => ?_)
      · have hn : M.changes[k].new ≠ noName := by simpa using hn
        rw [if_neg hn] at hp
        have hi := hD.chOk _ (List.getElem_mem h) hn
        rw [filePtr_some hi] at hp
        subst hp
        refine ⟨_, hS6.load (o := 2) List.mem_cons_self rfl (by kernel_rfl), ?_⟩
        have hS6' : Sep E w6 (setM m1 lu cu :: (([(b, Obj.cells (spl [.string ByteArray.empty, .string ByteArray.empty, .pointer none] 0 (Value.agg #[.string M.changes[k].gone, .string M.changes[k].new, .pointer (some ⟨D.bs[M.changes[k].file], 0, none⟩)]).cells.toList).toArray 153 (0, 0))] ++ G) ++ (D.chunks M d ++ L))) := hS6.weak (by intro f; simp only [ms_append, ms_cons, ms_nil]; omega)
        obtain ⟨w7, l', c', h7, hw', hv', hk', hS7⟩ := hS6'.put hwu hkb hvu (List.getElem_mem hi)
        refine ⟨w7, h7, M.changes.length - (k + 1), by omega, k + 1, l', c', _, by omega, rfl, by rw [w64 (by omega) (by omega)]; rfl, hw', hv', fun b => ?_, hS7⟩
        rw [hk', hku, ht]
        simp only [List.mem_append, List.mem_singleton]
        constructor
        · rintro ((h1 | ⟨c, hc1, hc2⟩) | rfl)
          · exact .inl h1
          · exact .inr ⟨c, .inl hc1, hc2⟩
          · exact .inr ⟨_, .inr rfl, hn, filePtr_some hi⟩
        · rintro (h1 | ⟨c, hc1 | rfl, hc2, hc3⟩)
          · exact .inl (.inl h1)
          · exact .inl (.inr ⟨c, hc1, hc2, hc3⟩)
          · rw [filePtr_some hi] at hc3
            simp only [Option.some.injEq, Addr.mk.injEq, and_true] at hc3
            exact .inr hc3.symm
      · have hn : M.changes[k].new = noName := by simpa using hn
        refine ⟨M.changes.length - (k + 1), by omega, k + 1, lu, cu, (b, Obj.cells (spl [.string ByteArray.empty, .string ByteArray.empty, .pointer none] 0 (Value.agg #[.string M.changes[k].gone, .string M.changes[k].new, .pointer p]).cells.toList).toArray 153 (0, 0)) :: G, by omega, rfl, by rw [w64 (by omega) (by omega)]; rfl, hwu, hvu, fun b => ?_, hS6.weak (by intro f; simp only [ms_append, ms_cons, ms_nil]; omega)⟩
        rw [hku, ht]
        simp only [List.mem_append, List.mem_singleton]
        constructor
        · rintro (h1 | ⟨c, hc1, hc2⟩)
          · exact .inl h1
          · exact .inr ⟨c, .inl hc1, hc2⟩
        · rintro (h1 | ⟨c, hc1 | rfl, hc2, hc3⟩)
          · exact .inl h1
          · exact .inr ⟨c, hc1, hc2, hc3⟩
          · exact absurd hn hc2
    · -- the sum
      have h : k = M.changes.length := by simp at h; omega
      subst h
      rw [List.take_length] at hku
      obtain ⟨it2, w5, h5, hS5⟩ := hS4.range (mt := 160) List.mem_cons_self u160
      refine ⟨_, w5, h5, ?_⟩
      have hused : ms (lenAt D.fs) (lu.map (·.k)) = M.used := by
        rw [sum_held D.fs hnod _ hwu.keys hkb]
        unfold MDisk.used
        rw [← hD.files]
        refine (usedTo_ms M D.fs 0 (fun r => r.b ∈ lu.map (·.k)) fun j r hj => ?_).symm
        have hjl : j < D.bs.length := by
          have := (List.getElem?_eq_some_iff.1 hj).1
          simpa [DS.bs] using this
        have hjb : D.bs[j] = r.b := by
          have := List.getElem?_eq_some_iff.1 hj
          simp [DS.bs, this.2]
        have hfp : filePtr D.bs j = some ⟨r.b, 0, none⟩ := by rw [filePtr_some hjl, hjb]
        rw [Nat.zero_add, holds_iff, hku]
        constructor
        · rintro (⟨e, he, hv⟩ | ⟨c, hcm, hcn, hcv⟩)
          · obtain ⟨i, hf, hi, hv'⟩ := hD.kept.ent he
            rw [hv] at hv'
            have : filePtr D.bs i = filePtr D.bs j := by rw [hfp]; simpa using hv'.symm
            have := filePtr_inj hnod hi this
            subst this
            exact .inl ⟨_, mem_of_findN hf, rfl⟩
          · have := filePtr_inj hnod (hD.chOk c hcm hcn) (hcv.trans hfp.symm)
            exact .inr ⟨c, hcm, hcn, this⟩
        · rintro (⟨x, hx, rfl⟩ | ⟨c, hcm, hcn, rfl⟩)
          · have hg := hD.kept.get x.1
            rw [findN_mem hD.kept.sorted hx] at hg
            obtain ⟨e, he, _, hv⟩ := mem_of_getE hg
            exact .inl ⟨e, he, by rw [hv]; show Value.pointer (filePtr D.bs x.2) = _; rw [hfp]⟩
          · exact .inr ⟨c, hcm, hcn, hfp⟩
      have htot : ∀ seen : List Nat, ms (fun e : Ent Nat => if e.born ∈ seen then lenAt D.fs e.k else 0) lu ≤ M.used := fun seen => by
        rw [← hused, ms_map]
        exact ms_mono (fun x => by split <;> omega) lu
      have hut : M.used ≤ M.total := by
        rw [← hused, sum_held D.fs hnod _ hwu.keys hkb]
        unfold MDisk.total
        rw [← hD.files, ms_map]
        exact ms_mono (fun x => by split <;> omega) D.fs
      refine ⟨fun n σ w6 => ∃ seen : List Nat, n = lu.length - cnt seen lu ∧ σ.1 = ((ms (fun e : Ent Nat => if e.born ∈ seen then lenAt D.fs e.k else 0) lu : Nat) : Int) ∧ Sep E w6 (iterC it2 m1 cu seen :: setM m1 lu cu :: (G ++ (D.chunks M d ++ L))), _, ⟨[], rfl, ?_, hS5⟩, ?_⟩
      · have : ms (fun e : Ent Nat => if e.born ∈ ([] : List Nat) then lenAt D.fs e.k else 0) lu = 0 := ms_zero fun x _ => by simp
        rw [this]
        rfl
      rintro n ⟨σ, _⟩ w6 ⟨seen, rfl, hσ, hS6⟩ _
      dsimp only at hσ ⊢
      subst hσ
      refine hS6.next (m := m1) (l := lu) (kv := ptrV) List.mem_cons_self hwu.born (fun hall => ?_) (fun e he hes w7 hS7 => ?_)
      · have : ms (fun e : Ent Nat => if e.born ∈ seen then lenAt D.fs e.k else 0) lu = M.used := by
          rw [← hused, ms_map]
          exact ms_congr fun x hx => by rw [if_pos (hall x hx)]
        rw [this]
        exact ⟨iterC it2 m1 cu seen :: setM m1 lu cu :: G, rfl, hS6⟩
      · have hev : e.v = .bool true := hvu e he
        have hent := hS7.entry (it := it2) (m := m1) (l := lu) (kv := ptrV) List.mem_cons_self (List.mem_cons_of_mem _ List.mem_cons_self) he hwu.borns
        rw [hev] at hent
        refine ⟨some ⟨e.k, 0, none⟩, true, hent, ?_⟩
        obtain ⟨r, hr, hrb⟩ := List.mem_map.1 (hkb e.k (List.mem_map.2 ⟨e, he, rfl⟩))
        have hm : fChunk r ∈ iterC it2 m1 cu (seen ++ [e.born]) :: setM m1 lu cu :: (G ++ (D.chunks M d ++ L)) := by
          simp only [DS.chunks, List.mem_cons, List.mem_append, List.mem_map]
          exact .inr (.inr (.inr (.inl (.inr (.inr (.inr (.inr ⟨r, hr, rfl⟩)))))))
        refine ⟨r.s, ?_, lu.length - cnt (seen ++ [e.born]) lu, cnt_step he hwu.borns hes, seen ++ [e.born], rfl, ?_, hS7⟩
        · rw [← hrb]
          exact hS7.load (o := 0) hm rfl (by kernel_rfl)
        · have hst := ms_seen (fun e : Ent Nat => lenAt D.fs e.k) seen lu e he hwu.borns hes
          have hle := htot (seen ++ [e.born])
          have hsz := (hD.bytes r hr).size
          have hl := lenAt_of hnod hr
          rw [hrb] at hl
          rw [hst] at hle ⊢
          rw [hsz, w64 (by omega) (by omega), hl]
          rfl
  · obtain ⟨i, hf, hi, hv⟩ := hD.kept.ent he
    have hent := hS4.entry (it := it) (m := D.mq) (l := D.lk) (kv := Value.string) List.mem_cons_self (by simp [DS.chunks]) he hD.kept.wf.borns
    rw [hv] at hent
    refine ⟨e.k, _, hent, ?_⟩
    have hS4' : Sep E w4 (setM m1 lu cu :: ([iterC it D.mq D.ck (seen ++ [e.born])] ++ (D.chunks M d ++ L))) := hS4.weak (by intro f; simp only [ms_append, ms_cons, ms_nil]; omega)
    obtain ⟨w5, l', c', h5, hw', hv', hk', hS5⟩ := hS4'.put hwu hkb hvu (List.getElem_mem hi)
    rw [filePtr_some hi]
    refine ⟨w5, h5, _, cnt_step he hD.kept.wf.borns hes, seen ++ [e.born], l', c', rfl, hw', hv', fun b => ?_, hS5.weak (by intro f; simp only [ms_append, ms_cons, ms_nil]; omega)⟩
    rw [hk', hku]
    constructor
    · rintro (⟨e', h1, h2, h3⟩ | rfl)
      · exact ⟨e', h1, by simp [h2], h3⟩
      · exact ⟨e, he, by simp, by rw [hv, filePtr_some hi]⟩
    · rintro ⟨e', h1, h2, h3⟩
      rcases List.mem_append.1 h2 with h2 | h2
      · exact .inl ⟨e', h1, h2, h3⟩
      · rw [List.mem_singleton] at h2
        have := born_inj hD.kept.wf.borns h1 he h2
        subst this
        rw [hv, filePtr_some hi] at h3
        simp only [Value.pointer.injEq, Option.some.injEq, Addr.mk.injEq, and_true] at h3
        exact .inr h3.symm

theorem ready_total (M : MDisk) : M.ready.2.total = M.total := by
  unfold MDisk.total
  rw [(ready_same M).1]

theorem total_at {M : MDisk} {f : MFile} (h : f ∈ M.files) : f.bytes.length ≤ M.total := ms_pos (f := fun f : MFile => f.bytes.length) h

theorem used_le (M : MDisk) : M.used ≤ M.total := by
  have : ∀ (fs : List MFile) (i : Nat), M.usedTo i fs ≤ ms (fun f => f.bytes.length) fs := fun fs => by
    induction fs with
    | nil => exact fun _ => Nat.le_refl _
    | cons f fs ih =>
      intro i
      have := ih (i + 1)
      unfold MDisk.usedTo
      rw [ms_cons]
      split <;> omega
  exact this M.files 0

/-- Append. -/
theorem k33 {E w : World} {L I : List Chunk} {M : MDisk} {D : DS} {d : Nat} (hl : M.left ≤ 9223372036854775807) (hS : Sep E w (D.chunks M d ++ L)) (hD : DRep D M I) (hT : M.total ≤ 549755813888) (hc : M.changes.length ≤ 1099511627776) (hI : ∀ c ∈ I, c ∈ L) (n : ByteArray) {x : SV} {b : List UInt8} (hx : RdB L x b) (hb : b.length ≤ 549755813888) :
    Calls Pr 33 #[.pointer (some ⟨d, 0, none⟩), .string n, .slice x.a x.len x.cap] w fun e w' => ∃ (D' : DS) (C : List Chunk), e = .returned (.int .i64 (M.append n b).1) ∧ DRep D' (M.append n b).2 (C ++ I) ∧ Sep E w' (D'.chunks (M.append n b).2 d ++ (C ++ L)) := by
  refine call33 ?_
  unfold ir33
  refine (k87 hl hS hD n).mono ?_
  rintro _ w1 ⟨rfl, hS1⟩
  have hD1 := hD.ready
  have hst := ready_same M
  have hT1 : M.ready.2.total ≤ 549755813888 := by rw [ready_total]; exact hT
  refine ⟨_, _, rfl, ?_⟩
  unfold MDisk.append
  rcases find_cases M n with ⟨e, he, hf⟩ | ⟨i, hf, hi⟩
  · rw [hf]
    exact brc_true (by simpa using he) ⟨D, [], rfl, hD1, hS1⟩
  · rw [hf]
    refine brc_false rfl ?_
    obtain ⟨A, r, B, hfs, hA, hp, hfa, hr⟩ := hD1.file (hD1.now.ids n i hi)
    simp only [Option.bind_some, hp]
    refine ⟨fun w => Sep E w (D.chunks M.ready.2 d ++ L), hS1.drew, (M.ready.2.room : Int), fun w hw => hw.load (o := 3) (D.dmem _ _ _) rfl (by kernel_rfl), ?_⟩
    refine (k40 hS1.drew hD1 (by omega) (by rw [hst.2.2.2.1]; exact hc)).mono ?_
    rintro _ w2 ⟨C, rfl, hS2⟩
    refine ⟨_, rfl, fun w => w = w2, ?_, rfl, ?_⟩
    · rintro w rfl
      exact hS2.weak (by intro f; simp only [ms_append, ms_cons, ms_nil]; omega)
    have hxs := hx.size
    have hul := used_le M.ready.2
    rw [w64 (by omega) (by omega)]
    refine brc_intro (fun h => ?_) (fun h => ?_)
    · have h : M.ready.2.used + b.length > M.ready.2.room := by simp at h; omega
      simp only [h, if_true]
      refine ⟨D, C, by trivial, hD1.right C, hS2.weak (by intro f; simp only [ms_append, ms_cons, ms_nil]; omega)⟩
    · have h : ¬ M.ready.2.used + b.length > M.ready.2.room := by simp at h; omega
      simp only [h, if_false]
      have hm : fChunk r ∈ C ++ (D.chunks M.ready.2 d ++ L) := by simp [DS.chunks, hfs]
      refine ⟨r.s, hS2.load (o := 0) hm rfl (by kernel_rfl), ?_⟩
      have hrb : r.f.bytes.length ≤ 549755813888 := by
        refine Nat.le_trans (total_at ?_) hT1
        rw [← hD1.files]
        exact List.mem_map.2 ⟨r, hr, rfl⟩
      obtain ⟨s2, w3, h3, hc3⟩ := hS2.join ((((hD1.bytes r hr).mono hI).right _).right _) ((hx.right _).right _) (by omega)
      refine ⟨s2, w3, h3, hc3.mono ?_⟩
      rintro _ w4 ⟨s3, C3, rfl, hr3, hS4⟩
      refine ⟨s3, rfl, ?_⟩
      have hS5 : Sep E w4 (fChunk r :: (dChunk M.ready.2 d D.mn D.mq D.cs :: strM D.mn D.ln D.cn :: strM D.mq D.lk D.ck :: (D.CC ++ (A.map fChunk ++ B.map fChunk)) ++ (C3 ++ (C ++ L)))) := by
        refine hS4.weak ?_
        intro f
        simp only [DS.chunks, hfs, ms_append, ms_cons, ms_nil, List.map_append, List.map_cons, List.map_nil]
        omega
      obtain ⟨w5, h5, hS6⟩ := hS5.store (o := 0) (n := 1) (v := slV s3) (t := 26) (by kernel_rfl) rfl (by simp) (by simp [Value.cells, Value.oneCell'])
      refine ⟨w5, h5, _, C3 ++ C, by trivial, hA ▸ (hD1.right (C3 ++ C)).turn hfs (s := s3) (fun f => ⟨f.bytes ++ b, f.kept⟩) (((hr3.left _).left _)), ?_⟩
      have hS6' : Sep E w5 (fChunk ⟨r.b, s3, ⟨r.f.bytes ++ b, r.f.kept⟩⟩ :: (dChunk M.ready.2 d D.mn D.mq D.cs :: strM D.mn D.ln D.cn :: strM D.mq D.lk D.ck :: (D.CC ++ (A.map fChunk ++ B.map fChunk)) ++ (C3 ++ (C ++ L)))) := hS6
      refine hS6'.weak ?_
      intro f
      simp only [DS.chunks, dChunk_set, ms_append, ms_cons, ms_nil, List.map_append, List.map_cons, List.map_nil]
      omega

end Go.Proofs.Ytonjaaljnjjjcaa

/- What 'vc' of these functions comes to, and their calls by it. Printed by dec.py. -/
set_option linter.unusedVariables false
set_option linter.unusedSimpArgs false
namespace Go.Proofs.Ytonjaaljnjjjcaa
open Go

/-- (*creel/disk.Disk).Doom -/
def ir49 (x0 : Option Addr) (x1 : Int) (w0 : World) (R : Value → World → Prop) : Prop :=
  brc (Option.isNone x0)
    (R (.int .i64 2) w0)
    (brc (decide (x1 < (0 : Int)))
        (R (.int .i64 1) w0)
        (optK x0 fun a1 =>
            ∃ (w1 : World),
            Sem.run Pr (Instr.storeAt 4 (.pointer (some (Addr.add a1 5))) (.bool true)) w0 = .ok () w1 ∧
            optK x0 fun a2 =>
              ∃ (w2 : World),
              Sem.run Pr (Instr.storeAt 3 (.pointer (some (Addr.add a2 6))) (.int .i64 x1)) w1 = .ok () w2 ∧
              R (.int .i64 0) w2))

theorem call49 {x0 : Option Addr} {x1 : Int} {w0 : World} {R : Ending → World → Prop} (h : ir49 x0 x1 w0 fun v w => R (.returned v) w) : Calls Pr 49 #[.pointer x0, .int .i64 x1] w0 R := by
  refine calls_of_vc (ann := []) (E := []) (args := [.pointer x0, .int .i64 x1]) follows Try.func49 rfl (by kernel_rfl) ?_
  apply by_eq h
  kernel_rfl

/-- (*creel/disk.Disk).Grow -/
def ir95 (x0 : Option Addr) (x1 : Int) (w0 : World) (R : Value → World → Prop) : Prop :=
  brc (Option.isNone x0)
    (R (.int .i64 2) w0)
    (brc (decide (x1 < (0 : Int)))
        (R (.int .i64 1) w0)
        (optK x0 fun a1 =>
            ∃ (w1 : World),
            Sem.run Pr (Instr.storeAt 3 (.pointer (some (Addr.add a1 3))) (.int .i64 x1)) w0 = .ok () w1 ∧
            R (.int .i64 0) w1))

theorem call95 {x0 : Option Addr} {x1 : Int} {w0 : World} {R : Ending → World → Prop} (h : ir95 x0 x1 w0 fun v w => R (.returned v) w) : Calls Pr 95 #[.pointer x0, .int .i64 x1] w0 R := by
  refine calls_of_vc (ann := []) (E := []) (args := [.pointer x0, .int .i64 x1]) follows Try.func95 rfl (by kernel_rfl) ?_
  apply by_eq h
  kernel_rfl

/-- (*creel/disk.Disk).Names -/
def ir50 (x0 : Option Addr) (w0 : World) (R : Value → World → Prop) : Prop :=
  Calls Pr 91 #[(.pointer x0)] w0 fun e1 w1 =>
    ∃ (n1 : Int),
    e1 = .returned (.int .i64 n1) ∧
    brc (n1 != (0 : Int))
      (R (.tuple #[(.slice none 0 0), (.int .i64 n1)]) w1)
      (optK x0 fun a1 =>
          ∃ (m1 : Option Nat),
          At Pr w1 (loadVar 137 (Addr.add a1 0)) (.map m1) ∧
          Calls Pr 110 #[(.map m1)] w1 fun e2 w2 =>
            ∃ (s1 : SV),
            e2 = .returned (.slice s1.a s1.len s1.cap) ∧
            R (.tuple #[(.slice s1.a s1.len s1.cap), (.int .i64 0)]) w2)

theorem call50 {x0 : Option Addr} {w0 : World} {R : Ending → World → Prop} (h : ir50 x0 w0 fun v w => R (.returned v) w) : Calls Pr 50 #[.pointer x0] w0 R := by
  refine calls_of_vc (ann := []) (E := []) (args := [.pointer x0]) follows Try.func50 rfl (by kernel_rfl) ?_
  apply by_eq h
  kernel_rfl

/-- (creel/disk.names).sorted -/
def ir110 (x0 : Option Nat) (w0 : World) (R : Value → World → Prop) : Prop :=
  ∃ (a1 : Addr) (w1 : World),
  Sem.run Pr (Instr.range 137 (.map x0)) w0 = .ok (.pointer (some a1)) w1 ∧
  LoopT (σ := SV × Unit) (fun σ1 w2 K1 =>
    ∀ _ : Env,
    NextM Pr (.pointer (some a1)) 0 w2
      (fun w3 =>
        Calls Pr 146 #[(.slice σ1.1.a σ1.1.len σ1.1.cap)] w3 fun e1 w5 =>
          e1 = .returned (.tuple #[]) ∧
          R (.slice σ1.1.a σ1.1.len σ1.1.cap) w5)
      (fun k1 v1 w4 =>
        ∃ (str1 : ByteArray),
        ∃ (p1 : Option Addr),
        At Pr w4 (Instr.entry (.pointer (some a1))) (.tuple #[(.string str1), (.pointer p1)]) ∧
        ∃ (s1 : SV) (w6 : World),
        Sem.run Pr (Instr.buildSlice 78 1 #[(0, (.string str1))]) w4 = .ok (.slice s1.a s1.len s1.cap) w6 ∧
        ∃ (s2 : SV) (w7 : World),
        Sem.run Pr (Builtin.append_ #[78, 78] 78 #[(.slice σ1.1.a σ1.1.len σ1.1.cap), (.slice s1.a s1.len s1.cap)]) w6 = .ok (.slice s2.a s2.len s2.cap) w7 ∧
        K1 (s2, ()) w7)) (SV.mk none 0 0, ()) w1

theorem call110 {x0 : Option Nat} {w0 : World} {R : Ending → World → Prop} (h : ir110 x0 w0 fun v w => R (.returned v) w) : Calls Pr 110 #[.map x0] w0 R := by
  refine calls_of_vc (ann := [(3, [(3, .slice)])]) (E := [(6, 137)]) (args := [.map x0]) follows Try.func110 rfl (by kernel_rfl) ?_
  apply by_eq h
  kernel_rfl

/-- (*creel/disk.Disk).Crash -/
def ir45 (x0 : Option Addr) (x1_Names : Int) (x1_Bytes : SV) (w0 : World) (R : Value → World → Prop) : Prop :=
  ∃ (a1 : Addr) (w1 : World),
  Sem.run Pr (Instr.box 63 (.agg #[(.int .i64 x1_Names), (.slice x1_Bytes.a x1_Bytes.len x1_Bytes.cap)])) w0 = .ok (.pointer (some a1)) w1 ∧
  brc (Option.isNone x0)
    (R (.int .i64 2) w1)
    (optK x0 fun a2 =>
        ∃ (m1 : Option Nat),
        At Pr w1 (loadVar 137 (Addr.add a2 1)) (.map m1) ∧
        Calls Pr 108 #[(.map m1)] w1 fun e1 w2 =>
          ∃ (m2 : Option Nat),
          e1 = .returned (.map m2) ∧
          ∃ (S1 : World → Prop),
          S1 (World.drew w2) ∧
          optK x0 fun a3 =>
            ∃ (s1 : SV),
            AtS Pr S1 (loadVar 138 (Addr.add a3 2)) (.slice s1.a s1.len s1.cap) ∧
            ∃ (n1 : Int),
            AtS Pr S1 (loadVar 3 (Addr.add a1 0)) (.int .i64 n1) ∧
            optK x0 fun a4 =>
              ∃ (s2 : SV),
              AtS Pr S1 (loadVar 138 (Addr.add a4 2)) (.slice s2.a s2.len s2.cap) ∧
              ((0 : Int) ≤ (if ((s2.len : Nat) : Int) < (if 0 > n1 then 0 else n1) then ((s2.len : Nat) : Int) else (if 0 > n1 then 0 else n1)) ∧ (if ((s2.len : Nat) : Int) < (if 0 > n1 then 0 else n1) then ((s2.len : Nat) : Int) else (if 0 > n1 then 0 else n1)) ≤ ((s1.cap : Nat) : Int)) ∧
              LoopT (σ := Int × Unit) (fun σ1 w3 K1 =>
                ∀ _ : Env,
                brc (decide (σ1.1 < ((((Int.toNat (if ((s2.len : Nat) : Int) < (if 0 > n1 then 0 else n1) then ((s2.len : Nat) : Int) else (if 0 > n1 then 0 else n1))) - 0 : Nat) : Int))))
                  (((0 : Int) ≤ σ1.1 ∧ σ1.1 < (((Int.toNat (if ((s2.len : Nat) : Int) < (if 0 > n1 then 0 else n1) then ((s2.len : Nat) : Int) else (if 0 > n1 then 0 else n1))) - 0 : Nat) : Int)) ∧
                    optK (cutAt s1.a 0 s1.cap 3) fun a5 =>
                      ∃ (str1 : ByteArray) (str2 : ByteArray) (p1 : Option Addr),
                      At Pr w3 (loadVar 153 (Addr.add a5 (Int.toNat σ1.1 * 3))) (.agg #[(.string str1), (.string str2), (.pointer p1)]) ∧
                      ∃ (a6 : Addr) (w4 : World),
                      Sem.run Pr (Instr.alloc 153 true (.tuple #[])) w3 = .ok (.pointer (some a6)) w4 ∧
                      ∃ (w5 : World),
                      Sem.run Pr (Instr.storeAt 153 (.pointer (some a6)) (.agg #[(.string str1), (.string str2), (.pointer p1)])) w4 = .ok () w5 ∧
                      ∃ (str3 : ByteArray) (str4 : ByteArray) (p2 : Option Addr),
                      At Pr w5 (loadVar 153 a6) (.agg #[(.string str3), (.string str4), (.pointer p2)]) ∧
                      Calls Pr 109 #[(.map m2), (.agg #[(.string str3), (.string str4), (.pointer p2)])] w5 fun e2 w6 =>
                        e2 = .returned (.tuple #[]) ∧
                        K1 (IntKind.wrap .i64 (σ1.1 + 1), ()) w6)
                  (Calls Pr 110 #[(.map m2)] w3 fun e3 w7 =>
                      ∃ (s3 : SV),
                      e3 = .returned (.slice s3.a s3.len s3.cap) ∧
                      LoopT (σ := Int × Unit) (fun σ2 w8 K2 =>
                        ∀ _ : Env,
                        brc (decide (σ2.1 < ((s3.len : Nat) : Int)))
                          (((0 : Int) ≤ σ2.1 ∧ σ2.1 < ((s3.len : Nat) : Int)) ∧
                            optK s3.a fun a7 =>
                              ∃ (str5 : ByteArray),
                              At Pr w8 (loadVar 9 (Addr.add a7 (Int.toNat σ2.1 * 1))) (.string str5) ∧
                              ∃ (p3 : Option Addr),
                              At Pr w8 (Instr.lookup 137 (.map m2) (.string str5) false) (.pointer p3) ∧
                              ∃ (s4 : SV),
                              At Pr w8 (loadVar 61 (Addr.add a1 1)) (.slice s4.a s4.len s4.cap) ∧
                              brc (decide (((s4.len : Nat) : Int) > (0 : Int)))
                                (∃ (S2 : World → Prop),
                                  S2 (World.drew w8) ∧
                                  ∃ (s5 : SV),
                                  AtS Pr S2 (loadVar 61 (Addr.add a1 1)) (.slice s5.a s5.len s5.cap) ∧
                                  ∃ (s6 : SV),
                                  AtS Pr S2 (loadVar 61 (Addr.add a1 1)) (.slice s6.a s6.len s6.cap) ∧
                                  ((s6.len : Nat) : Int) ≠ 0 ∧
                                  ((0 : Int) ≤ (Int.tmod σ2.1 ((s6.len : Nat) : Int)) ∧ (Int.tmod σ2.1 ((s6.len : Nat) : Int)) < ((s5.len : Nat) : Int)) ∧
                                  optK s5.a fun a8 =>
                                    ∃ (n2 : Int),
                                    AtS Pr S2 (loadVar 3 (Addr.add a8 (Int.toNat (Int.tmod σ2.1 ((s6.len : Nat) : Int)) * 1))) (.int .i64 n2) ∧
                                    optK p3 fun a9 =>
                                      ∃ (s7 : SV),
                                      AtS Pr S2 (loadVar 26 (Addr.add a9 0)) (.slice s7.a s7.len s7.cap) ∧
                                      optK p3 fun a10 =>
                                        ∃ (n3 : Int),
                                        AtS Pr S2 (loadVar 3 (Addr.add a10 1)) (.int .i64 n3) ∧
                                        optK p3 fun a11 =>
                                          ∃ (n4 : Int),
                                          At Pr (World.drew w8) (loadVar 3 (Addr.add a11 1)) (.int .i64 n4) ∧
                                          optK p3 fun a12 =>
                                            ∃ (s8 : SV),
                                            At Pr (World.drew w8) (loadVar 26 (Addr.add a12 0)) (.slice s8.a s8.len s8.cap) ∧
                                            ((0 : Int) ≤ (IntKind.wrap .i64 (n4 + (if (IntKind.wrap .i64 (((s7.len : Nat) : Int) - n3)) < (if 0 > n2 then 0 else n2) then (IntKind.wrap .i64 (((s7.len : Nat) : Int) - n3)) else (if 0 > n2 then 0 else n2)))) ∧ (IntKind.wrap .i64 (n4 + (if (IntKind.wrap .i64 (((s7.len : Nat) : Int) - n3)) < (if 0 > n2 then 0 else n2) then (IntKind.wrap .i64 (((s7.len : Nat) : Int) - n3)) else (if 0 > n2 then 0 else n2)))) ≤ ((s8.cap : Nat) : Int)) ∧
                                            ((0 : Int) ≤ (IntKind.wrap .i64 (n4 + (if (IntKind.wrap .i64 (((s7.len : Nat) : Int) - n3)) < (if 0 > n2 then 0 else n2) then (IntKind.wrap .i64 (((s7.len : Nat) : Int) - n3)) else (if 0 > n2 then 0 else n2)))) ∧ (IntKind.wrap .i64 (n4 + (if (IntKind.wrap .i64 (((s7.len : Nat) : Int) - n3)) < (if 0 > n2 then 0 else n2) then (IntKind.wrap .i64 (((s7.len : Nat) : Int) - n3)) else (if 0 > n2 then 0 else n2)))) ≤ ((Int.toNat (IntKind.wrap .i64 (n4 + (if (IntKind.wrap .i64 (((s7.len : Nat) : Int) - n3)) < (if 0 > n2 then 0 else n2) then (IntKind.wrap .i64 (((s7.len : Nat) : Int) - n3)) else (if 0 > n2 then 0 else n2)))) : Nat) : Int)) ∧
                                            ∃ (a13 : Addr) (w9 : World),
                                            Sem.run Pr (Instr.box 146 (.agg #[(.slice (cutAt s8.a 0 (Int.toNat (IntKind.wrap .i64 (n4 + (if (IntKind.wrap .i64 (((s7.len : Nat) : Int) - n3)) < (if 0 > n2 then 0 else n2) then (IntKind.wrap .i64 (((s7.len : Nat) : Int) - n3)) else (if 0 > n2 then 0 else n2))))) 1) ((Int.toNat (IntKind.wrap .i64 (n4 + (if (IntKind.wrap .i64 (((s7.len : Nat) : Int) - n3)) < (if 0 > n2 then 0 else n2) then (IntKind.wrap .i64 (((s7.len : Nat) : Int) - n3)) else (if 0 > n2 then 0 else n2))))) - 0) ((Int.toNat (IntKind.wrap .i64 (n4 + (if (IntKind.wrap .i64 (((s7.len : Nat) : Int) - n3)) < (if 0 > n2 then 0 else n2) then (IntKind.wrap .i64 (((s7.len : Nat) : Int) - n3)) else (if 0 > n2 then 0 else n2))))) - 0)), (.int .i64 (IntKind.wrap .i64 (n4 + (if (IntKind.wrap .i64 (((s7.len : Nat) : Int) - n3)) < (if 0 > n2 then 0 else n2) then (IntKind.wrap .i64 (((s7.len : Nat) : Int) - n3)) else (if 0 > n2 then 0 else n2)))))])) (World.drew w8) = .ok (.pointer (some a13)) w9 ∧
                                            ∃ (w10 : World),
                                            Sem.run Pr (Instr.mapUpdate 137 (.map m2) (.string str5) (.pointer (some a13))) w9 = .ok () w10 ∧
                                            K2 (IntKind.wrap .i64 (σ2.1 + 1), ()) w10)
                                (optK p3 fun a14 =>
                                    ∃ (n5 : Int),
                                    At Pr w8 (loadVar 3 (Addr.add a14 1)) (.int .i64 n5) ∧
                                    optK p3 fun a15 =>
                                      ∃ (s9 : SV),
                                      At Pr w8 (loadVar 26 (Addr.add a15 0)) (.slice s9.a s9.len s9.cap) ∧
                                      ((0 : Int) ≤ (IntKind.wrap .i64 (n5 + 0)) ∧ (IntKind.wrap .i64 (n5 + 0)) ≤ ((s9.cap : Nat) : Int)) ∧
                                      ((0 : Int) ≤ (IntKind.wrap .i64 (n5 + 0)) ∧ (IntKind.wrap .i64 (n5 + 0)) ≤ ((Int.toNat (IntKind.wrap .i64 (n5 + 0)) : Nat) : Int)) ∧
                                      ∃ (a16 : Addr) (w11 : World),
                                      Sem.run Pr (Instr.box 146 (.agg #[(.slice (cutAt s9.a 0 (Int.toNat (IntKind.wrap .i64 (n5 + 0))) 1) ((Int.toNat (IntKind.wrap .i64 (n5 + 0))) - 0) ((Int.toNat (IntKind.wrap .i64 (n5 + 0))) - 0)), (.int .i64 (IntKind.wrap .i64 (n5 + 0)))])) w8 = .ok (.pointer (some a16)) w11 ∧
                                      ∃ (w12 : World),
                                      Sem.run Pr (Instr.mapUpdate 137 (.map m2) (.string str5) (.pointer (some a16))) w11 = .ok () w12 ∧
                                      K2 (IntKind.wrap .i64 (σ2.1 + 1), ()) w12))
                          (∃ (S3 : World → Prop),
                            S3 (World.drew w8) ∧
                            optK x0 fun a17 =>
                              ∃ (n6 : Int),
                              AtS Pr S3 (loadVar 3 (Addr.add a17 3)) (.int .i64 n6) ∧
                              Calls Pr 108 #[(.map m2)] (World.drew w8) fun e4 w13 =>
                                ∃ (m3 : Option Nat),
                                e4 = .returned (.map m3) ∧
                                ∃ (S4 : World → Prop),
                                (∀ w, S4 w → S3 w) ∧
                                S4 w13 ∧
                                optK x0 fun a18 =>
                                  ∃ (w14 : World),
                                  Sem.run Pr (Instr.storeAt 140 (.pointer (some a18)) (.agg #[(.map m2), (.map m3), (.slice none 0 0), (.int .i64 n6), (.bool false), (.bool false), (.int .i64 0)])) w13 = .ok () w14 ∧
                                  ∃ (S5 : World → Prop),
                                  S5 w14 ∧
                                  R (.int .i64 0) w14)) (0, ()) w7)) (0, ()) (World.drew w2))

theorem call45 {x0 : Option Addr} {x1_Names : Int} {x1_Bytes : SV} {w0 : World} {R : Ending → World → Prop} (h : ir45 x0 x1_Names x1_Bytes w0 fun v w => R (.returned v) w) : Calls Pr 45 #[.pointer x0, .agg #[(.int .i64 x1_Names), (.slice x1_Bytes.a x1_Bytes.len x1_Bytes.cap)]] w0 R := by
  refine calls_of_vc (ann := [(5, [(35, .int .i64)]), (10, [(46, .int .i64)])]) (E := []) (args := [.pointer x0, .agg #[(.int .i64 x1_Names), (.slice x1_Bytes.a x1_Bytes.len x1_Bytes.cap)]]) follows Try.func45 rfl (by kernel_rfl) ?_
  apply by_eq h
  kernel_rfl

/-- (*creel/disk.Disk).Clone -/
def ir42 (x0 : Option Addr) (w0 : World) (R : Value → World → Prop) : Prop :=
  brc (Option.isNone x0)
    (R (.pointer none) w0)
    (optK x0 fun a1 =>
        ∃ (m1 : Option Nat) (m2 : Option Nat) (s1 : SV) (n1 : Int) (b1 : Bool) (b2 : Bool) (n2 : Int),
        At Pr w0 (loadVar 140 a1) (.agg #[(.map m1), (.map m2), (.slice s1.a s1.len s1.cap), (.int .i64 n1), (.bool b1), (.bool b2), (.int .i64 n2)]) ∧
        ∃ (a2 : Addr) (w1 : World),
        Sem.run Pr (Instr.alloc 140 true (.tuple #[])) w0 = .ok (.pointer (some a2)) w1 ∧
        ∃ (w2 : World),
        Sem.run Pr (Instr.storeAt 140 (.pointer (some a2)) (.agg #[(.map m1), (.map m2), (.slice s1.a s1.len s1.cap), (.int .i64 n1), (.bool b1), (.bool b2), (.int .i64 n2)])) w1 = .ok () w2 ∧
        ∃ (m3 : Nat) (w3 : World),
        Sem.run Pr (Instr.makeMap 170 none) w2 = .ok (.map (some m3)) w3 ∧
        ∃ (a3 : Addr) (w4 : World),
        Sem.run Pr (Instr.alloc 170 true (.tuple #[])) w3 = .ok (.pointer (some a3)) w4 ∧
        ∃ (w5 : World),
        Sem.run Pr (Instr.storeAt 170 (.pointer (some a3)) (.map (some m3))) w4 = .ok () w5 ∧
        ∃ (m4 : Nat) (w6 : World),
        Sem.run Pr (Instr.makeMap 137 none) w5 = .ok (.map (some m4)) w6 ∧
        ∃ (m5 : Nat) (w7 : World),
        Sem.run Pr (Instr.makeMap 137 none) w6 = .ok (.map (some m5)) w7 ∧
        ∃ (w8 : World),
        Sem.run Pr (Instr.storeAt 137 (.pointer (some (Addr.add a2 0))) (.map (some m4))) w7 = .ok () w8 ∧
        ∃ (w9 : World),
        Sem.run Pr (Instr.storeAt 137 (.pointer (some (Addr.add a2 1))) (.map (some m5))) w8 = .ok () w9 ∧
        ∃ (w10 : World),
        Sem.run Pr (Instr.storeAt 138 (.pointer (some (Addr.add a2 2))) (.slice none 0 0)) w9 = .ok () w10 ∧
        optK x0 fun a4 =>
          ∃ (m6 : Option Nat),
          At Pr w10 (loadVar 137 (Addr.add a4 0)) (.map m6) ∧
          ∃ (a5 : Addr) (w11 : World),
          Sem.run Pr (Instr.range 137 (.map m6)) w10 = .ok (.pointer (some a5)) w11 ∧
          LoopT (σ := Unit) (fun σ1 w12 K1 =>
            ∀ _ : Env,
            NextM Pr (.pointer (some a5)) 0 w12
              (fun w13 =>
                optK x0 fun a6 =>
                  ∃ (m7 : Option Nat),
                  At Pr w13 (loadVar 137 (Addr.add a6 1)) (.map m7) ∧
                  ∃ (a7 : Addr) (w15 : World),
                  Sem.run Pr (Instr.range 137 (.map m7)) w13 = .ok (.pointer (some a7)) w15 ∧
                  LoopT (σ := Unit) (fun σ2 w16 K2 =>
                    ∀ _ : Env,
                    NextM Pr (.pointer (some a7)) 0 w16
                      (fun w17 =>
                        optK x0 fun a8 =>
                          ∃ (s2 : SV),
                          At Pr w17 (loadVar 138 (Addr.add a8 2)) (.slice s2.a s2.len s2.cap) ∧
                          LoopT (σ := Int × Unit) (fun σ3 w19 K3 =>
                            ∀ _ : Env,
                            brc (decide (σ3.1 < ((s2.len : Nat) : Int)))
                              (((0 : Int) ≤ σ3.1 ∧ σ3.1 < ((s2.len : Nat) : Int)) ∧
                                optK s2.a fun a9 =>
                                  ∃ (str1 : ByteArray) (str2 : ByteArray) (p1 : Option Addr),
                                  At Pr w19 (loadVar 153 (Addr.add a9 (Int.toNat σ3.1 * 3))) (.agg #[(.string str1), (.string str2), (.pointer p1)]) ∧
                                  ∃ (a10 : Addr) (w20 : World),
                                  Sem.run Pr (Instr.alloc 153 true (.tuple #[])) w19 = .ok (.pointer (some a10)) w20 ∧
                                  ∃ (w21 : World),
                                  Sem.run Pr (Instr.storeAt 153 (.pointer (some a10)) (.agg #[(.string str1), (.string str2), (.pointer p1)])) w20 = .ok () w21 ∧
                                  ∃ (p2 : Option Addr),
                                  At Pr w21 (loadVar 141 (Addr.add a10 2)) (.pointer p2) ∧
                                  callV Pr (.func (.func 106) #[] #[(.pointer (some a3))]) [(.pointer p2)] w21 fun e1 w22 =>
                                    ∃ (p3 : Option Addr),
                                    e1 = .returned (.pointer p3) ∧
                                    ∃ (w23 : World),
                                    Sem.run Pr (Instr.storeAt 141 (.pointer (some (Addr.add a10 2))) (.pointer p3)) w22 = .ok () w23 ∧
                                    ∃ (s3 : SV),
                                    At Pr w23 (loadVar 138 (Addr.add a2 2)) (.slice s3.a s3.len s3.cap) ∧
                                    ∃ (str3 : ByteArray) (str4 : ByteArray) (p4 : Option Addr),
                                    At Pr w23 (loadVar 153 a10) (.agg #[(.string str3), (.string str4), (.pointer p4)]) ∧
                                    ∃ (s4 : SV) (w24 : World),
                                    Sem.run Pr (Instr.buildSlice 138 1 #[(0, (.agg #[(.string str3), (.string str4), (.pointer p4)]))]) w23 = .ok (.slice s4.a s4.len s4.cap) w24 ∧
                                    ∃ (s5 : SV) (w25 : World),
                                    Sem.run Pr (Builtin.append_ #[138, 138] 138 #[(.slice s3.a s3.len s3.cap), (.slice s4.a s4.len s4.cap)]) w24 = .ok (.slice s5.a s5.len s5.cap) w25 ∧
                                    ∃ (w26 : World),
                                    Sem.run Pr (Instr.storeAt 138 (.pointer (some (Addr.add a2 2))) (.slice s5.a s5.len s5.cap)) w25 = .ok () w26 ∧
                                    K3 (IntKind.wrap .i64 (σ3.1 + 1), ()) w26)
                              (R (.pointer (some a2)) w19)) (0, ()) w17)
                      (fun k2 v2 w18 =>
                        ∃ (str5 : ByteArray),
                        ∃ (p5 : Option Addr),
                        At Pr w18 (Instr.entry (.pointer (some a7))) (.tuple #[(.string str5), (.pointer p5)]) ∧
                        ∃ (S1 : World → Prop),
                        S1 (World.drew w18) ∧
                        ∃ (m8 : Option Nat),
                        AtS Pr S1 (loadVar 137 (Addr.add a2 1)) (.map m8) ∧
                        callV Pr (.func (.func 106) #[] #[(.pointer (some a3))]) [(.pointer p5)] (World.drew w18) fun e2 w27 =>
                          ∃ (p6 : Option Addr),
                          e2 = .returned (.pointer p6) ∧
                          ∃ (S2 : World → Prop),
                          (∀ w, S2 w → S1 w) ∧
                          S2 w27 ∧
                          ∃ (w28 : World),
                          Sem.run Pr (Instr.mapUpdate 137 (.map m8) (.string str5) (.pointer p6)) w27 = .ok () w28 ∧
                          ∃ (S3 : World → Prop),
                          S3 w28 ∧
                          K2 (()) w28)) (()) w15)
              (fun k1 v1 w14 =>
                ∃ (str6 : ByteArray),
                ∃ (p7 : Option Addr),
                At Pr w14 (Instr.entry (.pointer (some a5))) (.tuple #[(.string str6), (.pointer p7)]) ∧
                ∃ (S4 : World → Prop),
                S4 (World.drew w14) ∧
                ∃ (m9 : Option Nat),
                AtS Pr S4 (loadVar 137 (Addr.add a2 0)) (.map m9) ∧
                callV Pr (.func (.func 106) #[] #[(.pointer (some a3))]) [(.pointer p7)] (World.drew w14) fun e3 w29 =>
                  ∃ (p8 : Option Addr),
                  e3 = .returned (.pointer p8) ∧
                  ∃ (S5 : World → Prop),
                  (∀ w, S5 w → S4 w) ∧
                  S5 w29 ∧
                  ∃ (w30 : World),
                  Sem.run Pr (Instr.mapUpdate 137 (.map m9) (.string str6) (.pointer p8)) w29 = .ok () w30 ∧
                  ∃ (S6 : World → Prop),
                  S6 w30 ∧
                  K1 (()) w30)) (()) w11)

theorem call42 {x0 : Option Addr} {w0 : World} {R : Ending → World → Prop} (h : ir42 x0 w0 fun v w => R (.returned v) w) : Calls Pr 42 #[.pointer x0] w0 R := by
  refine calls_of_vc (ann := [(8, []), (12, []), (16, [(61, .int .i64)])]) (E := [(28, 137), (44, 137)]) (args := [.pointer x0]) follows Try.func42 rfl (by kernel_rfl) ?_
  apply by_eq h
  kernel_rfl

/-- (*creel/disk.Disk).Clone$1 -/
def ir106 (x0 : Option Addr) (c0 : Addr) (w0 : World) (R : Value → World → Prop) : Prop :=
  brc (!(Option.isNone x0))
    (∃ (m1 : Option Nat),
      At Pr w0 (loadVar 170 c0) (.map m1) ∧
      ∃ (p1 : Option Addr),
      At Pr w0 (Instr.lookup 170 (.map m1) (.pointer x0) false) (.pointer p1) ∧
      brc (Option.isNone p1)
        (∃ (S1 : World → Prop),
          S1 (World.drew w0) ∧
          ∃ (m2 : Option Nat),
          AtS Pr S1 (loadVar 170 c0) (.map m2) ∧
          optK x0 fun a1 =>
            ∃ (s1 : SV),
            AtS Pr S1 (loadVar 26 (Addr.add a1 0)) (.slice s1.a s1.len s1.cap) ∧
            optK x0 fun a2 =>
              ∃ (n1 : Int),
              AtS Pr S1 (loadVar 3 (Addr.add a2 1)) (.int .i64 n1) ∧
              ∃ (a3 : Addr) (w1 : World),
              Sem.run Pr (Instr.box 146 (.agg #[(.slice s1.a s1.len s1.cap), (.int .i64 n1)])) (World.drew w0) = .ok (.pointer (some a3)) w1 ∧
              ∃ (S2 : World → Prop),
              (∀ w, S2 w → S1 w) ∧
              S2 w1 ∧
              ∃ (w2 : World),
              Sem.run Pr (Instr.mapUpdate 170 (.map m2) (.pointer x0) (.pointer (some a3))) w1 = .ok () w2 ∧
              ∃ (S3 : World → Prop),
              S3 w2 ∧
              ∃ (m3 : Option Nat),
              At Pr w2 (loadVar 170 c0) (.map m3) ∧
              ∃ (p2 : Option Addr),
              At Pr w2 (Instr.lookup 170 (.map m3) (.pointer x0) false) (.pointer p2) ∧
              R (.pointer p2) w2)
        (∃ (m4 : Option Nat),
          At Pr w0 (loadVar 170 c0) (.map m4) ∧
          ∃ (p3 : Option Addr),
          At Pr w0 (Instr.lookup 170 (.map m4) (.pointer x0) false) (.pointer p3) ∧
          R (.pointer p3) w0))
    (∃ (m5 : Option Nat),
      At Pr w0 (loadVar 170 c0) (.map m5) ∧
      ∃ (p4 : Option Addr),
      At Pr w0 (Instr.lookup 170 (.map m5) (.pointer x0) false) (.pointer p4) ∧
      R (.pointer p4) w0)

theorem call106 {x0 : Option Addr} {c0 : Addr} {w0 : World} {R : Ending → World → Prop} (h : ir106 x0 c0 w0 fun v w => R (.returned v) w) : Calls Pr 106 #[.pointer x0, .pointer (some c0)] w0 R := by
  refine calls_of_vc (ann := []) (E := []) (args := [.pointer x0, .pointer (some c0)]) follows Try.func106 rfl (by kernel_rfl) ?_
  apply by_eq h
  kernel_rfl

/-- creel/creelref04.New -/
def ir36 (x0 : Int) (w0 : World) (R : Value → World → Prop) : Prop :=
  ∃ (a1 : Addr) (w1 : World),
  Sem.run Pr (Instr.box 159 (.agg #[(.slice none 0 0), (.slice none 0 0), (.slice none 0 0), (.slice none 0 0), (.int .i64 (if 0 > x0 then 0 else x0)), (.bool false), (.bool false), (.int .i64 0)])) w0 = .ok (.pointer (some a1)) w1 ∧
  R (.pointer (some a1)) w1

theorem call36 {x0 : Int} {w0 : World} {R : Ending → World → Prop} (h : ir36 x0 w0 fun v w => R (.returned v) w) : Calls Pr 36 #[.int .i64 x0] w0 R := by
  refine calls_of_vc (ann := []) (E := []) (args := [.int .i64 x0]) follows Try.func36 rfl (by kernel_rfl) ?_
  apply by_eq h
  kernel_rfl

/-- (*creel/creelref04.Disk).Used -/
def ir41 (x0 : Option Addr) (w0 : World) (R : Value → World → Prop) : Prop :=
  optK x0 fun a1 =>
    ∃ (s1 : SV),
    At Pr w0 (loadVar 155 (Addr.add a1 0)) (.slice s1.a s1.len s1.cap) ∧
    ∃ (s2 : SV) (w1 : World),
    Sem.run Pr (Instr.makeSlice 161 (.int .i64 ((s1.len : Nat) : Int)) (.int .i64 ((s1.len : Nat) : Int))) w0 = .ok (.slice s2.a s2.len s2.cap) w1 ∧
    optK x0 fun a2 =>
      ∃ (s3 : SV),
      At Pr w1 (loadVar 156 (Addr.add a2 2)) (.slice s3.a s3.len s3.cap) ∧
      LoopT (σ := Int × Unit) (fun σ1 w2 K1 =>
        ∀ _ : Env,
        brc (decide (σ1.1 < ((s3.len : Nat) : Int)))
          (((0 : Int) ≤ σ1.1 ∧ σ1.1 < ((s3.len : Nat) : Int)) ∧
            optK s3.a fun a3 =>
              ∃ (n1 : Int),
              At Pr w2 (loadVar 3 (Addr.add (Addr.add a3 (Int.toNat σ1.1 * 2)) 1)) (.int .i64 n1) ∧
              ((0 : Int) ≤ n1 ∧ n1 < ((s2.len : Nat) : Int)) ∧
              optK s2.a fun a4 =>
                ∃ (w3 : World),
                Sem.run Pr (Instr.storeAt 4 (.pointer (some (Addr.add a4 (Int.toNat n1 * 1)))) (.bool true)) w2 = .ok () w3 ∧
                K1 (IntKind.wrap .i64 (σ1.1 + 1), ()) w3)
          (LoopT (σ := Int × SV × Unit) (fun σ2 w4 K2 =>
              ∀ _ : Env,
              optK x0 fun a5 =>
                ∃ (s4 : SV),
                At Pr w4 (loadVar 157 (Addr.add a5 3)) (.slice s4.a s4.len s4.cap) ∧
                brc (decide (σ2.1 < ((s4.len : Nat) : Int)))
                  (optK x0 fun a6 =>
                      ∃ (s5 : SV),
                      At Pr w4 (loadVar 157 (Addr.add a6 3)) (.slice s5.a s5.len s5.cap) ∧
                      ((0 : Int) ≤ σ2.1 ∧ σ2.1 < ((s5.len : Nat) : Int)) ∧
                      optK s5.a fun a7 =>
                        ∃ (str1 : ByteArray) (str2 : ByteArray) (n2 : Int),
                        At Pr w4 (loadVar 166 (Addr.add a7 (Int.toNat σ2.1 * 3))) (.agg #[(.string str1), (.string str2), (.int .i64 n2)]) ∧
                        Calls Pr 104 #[(.slice σ2.2.1.a σ2.2.1.len σ2.2.1.cap), (.agg #[(.string str1), (.string str2), (.int .i64 n2)])] w4 fun e1 w5 =>
                          ∃ (s6 : SV),
                          e1 = .returned (.slice s6.a s6.len s6.cap) ∧
                          optK x0 fun a8 =>
                            ∃ (s7 : SV),
                            At Pr w5 (loadVar 157 (Addr.add a8 3)) (.slice s7.a s7.len s7.cap) ∧
                            ((0 : Int) ≤ σ2.1 ∧ σ2.1 < ((s7.len : Nat) : Int)) ∧
                            optK s7.a fun a9 =>
                              ∃ (str3 : ByteArray),
                              At Pr w5 (loadVar 9 (Addr.add (Addr.add a9 (Int.toNat σ2.1 * 3)) 1)) (.string str3) ∧
                              Calls Pr 105 #[(.slice s6.a s6.len s6.cap), (.string str3)] w5 fun e2 w6 =>
                                ∃ (n3 : Int),
                                e2 = .returned (.int .i64 n3) ∧
                                brc (decide (n3 ≥ (0 : Int)))
                                  (((0 : Int) ≤ n3 ∧ n3 < ((s2.len : Nat) : Int)) ∧
                                    optK s2.a fun a10 =>
                                      ∃ (w7 : World),
                                      Sem.run Pr (Instr.storeAt 4 (.pointer (some (Addr.add a10 (Int.toNat n3 * 1)))) (.bool true)) w6 = .ok () w7 ∧
                                      K2 (IntKind.wrap .i64 (σ2.1 + 1), s6, ()) w7)
                                  (K2 (IntKind.wrap .i64 (σ2.1 + 1), s6, ()) w6))
                  (LoopT (σ := Int × Int × Unit) (fun σ3 w8 K3 =>
                      ∀ _ : Env,
                      brc (decide (σ3.1 < ((s2.len : Nat) : Int)))
                        (((0 : Int) ≤ σ3.1 ∧ σ3.1 < ((s2.len : Nat) : Int)) ∧
                          optK s2.a fun a11 =>
                            ∃ (b1 : Bool),
                            At Pr w8 (loadVar 4 (Addr.add a11 (Int.toNat σ3.1 * 1))) (.bool b1) ∧
                            brc (b1)
                              (optK x0 fun a12 =>
                                  ∃ (s8 : SV),
                                  At Pr w8 (loadVar 155 (Addr.add a12 0)) (.slice s8.a s8.len s8.cap) ∧
                                  ((0 : Int) ≤ σ3.1 ∧ σ3.1 < ((s8.len : Nat) : Int)) ∧
                                  optK s8.a fun a13 =>
                                    ∃ (s9 : SV),
                                    At Pr w8 (loadVar 26 (Addr.add (Addr.add a13 (Int.toNat σ3.1 * 2)) 0)) (.slice s9.a s9.len s9.cap) ∧
                                    K3 (IntKind.wrap .i64 (σ3.1 + 1), IntKind.wrap .i64 (σ3.2.1 + ((s9.len : Nat) : Int)), ()) w8)
                              (K3 (IntKind.wrap .i64 (σ3.1 + 1), σ3.2.1, ()) w8))
                        (R (.int .i64 σ3.2.1) w8)) (0, 0, ()) w4)) (0, s3, ()) w2)) (0, ()) w1

theorem call41 {x0 : Option Addr} {w0 : World} {R : Ending → World → Prop} (h : ir41 x0 w0 fun v w => R (.returned v) w) : Calls Pr 41 #[.pointer x0] w0 R := by
  refine calls_of_vc (ann := [(4, [(5, .int .i64)]), (8, [(6, .int .i64), (4, .slice)]), (16, [(9, .int .i64), (8, .int .i64)])]) (E := []) (args := [.pointer x0]) follows Try.func41 rfl (by kernel_rfl) ?_
  apply by_eq h
  kernel_rfl

/-- (*creel/creelref04.Disk).Clone -/
def ir44 (x0 : Option Addr) (w0 : World) (R : Value → World → Prop) : Prop :=
  optK x0 fun a1 =>
    ∃ (s1 : SV) (s2 : SV) (s3 : SV) (s4 : SV) (n1 : Int) (b1 : Bool) (b2 : Bool) (n2 : Int),
    At Pr w0 (loadVar 159 a1) (.agg #[(.slice s1.a s1.len s1.cap), (.slice s2.a s2.len s2.cap), (.slice s3.a s3.len s3.cap), (.slice s4.a s4.len s4.cap), (.int .i64 n1), (.bool b1), (.bool b2), (.int .i64 n2)]) ∧
    ∃ (a2 : Addr) (w1 : World),
    Sem.run Pr (Instr.alloc 159 true (.tuple #[])) w0 = .ok (.pointer (some a2)) w1 ∧
    ∃ (w2 : World),
    Sem.run Pr (Instr.storeAt 159 (.pointer (some a2)) (.agg #[(.slice s1.a s1.len s1.cap), (.slice s2.a s2.len s2.cap), (.slice s3.a s3.len s3.cap), (.slice s4.a s4.len s4.cap), (.int .i64 n1), (.bool b1), (.bool b2), (.int .i64 n2)])) w1 = .ok () w2 ∧
    ∃ (s5 : SV) (w3 : World),
    Sem.run Pr (Instr.buildSlice 155 0 #[]) w2 = .ok (.slice s5.a s5.len s5.cap) w3 ∧
    optK x0 fun a3 =>
      ∃ (s6 : SV),
      At Pr w3 (loadVar 155 (Addr.add a3 0)) (.slice s6.a s6.len s6.cap) ∧
      ∃ (s7 : SV) (w4 : World),
      Sem.run Pr (Builtin.append_ #[155, 155] 155 #[(.slice s5.a s5.len s5.cap), (.slice s6.a s6.len s6.cap)]) w3 = .ok (.slice s7.a s7.len s7.cap) w4 ∧
      ∃ (w5 : World),
      Sem.run Pr (Instr.storeAt 155 (.pointer (some (Addr.add a2 0))) (.slice s7.a s7.len s7.cap)) w4 = .ok () w5 ∧
      R (.pointer (some a2)) w5

theorem call44 {x0 : Option Addr} {w0 : World} {R : Ending → World → Prop} (h : ir44 x0 w0 fun v w => R (.returned v) w) : Calls Pr 44 #[.pointer x0] w0 R := by
  refine calls_of_vc (ann := []) (E := []) (args := [.pointer x0]) follows Try.func44 rfl (by kernel_rfl) ?_
  apply by_eq h
  kernel_rfl

/-- (*creel/creelref04.Disk).Crash -/
def ir46 (x0 : Option Addr) (x1_Names : Int) (x1_Bytes : SV) (w0 : World) (R : Value → World → Prop) : Prop :=
  ∃ (a1 : Addr) (w1 : World),
  Sem.run Pr (Instr.box 63 (.agg #[(.int .i64 x1_Names), (.slice x1_Bytes.a x1_Bytes.len x1_Bytes.cap)])) w0 = .ok (.pointer (some a1)) w1 ∧
  optK x0 fun a2 =>
    ∃ (s1 : SV),
    At Pr w1 (loadVar 156 (Addr.add a2 2)) (.slice s1.a s1.len s1.cap) ∧
    LoopT (σ := Int × SV × Unit) (fun σ1 w2 K1 =>
      ∀ _ : Env,
      optK x0 fun a3 =>
        ∃ (s2 : SV),
        At Pr w2 (loadVar 157 (Addr.add a3 3)) (.slice s2.a s2.len s2.cap) ∧
        brc (decide (σ1.1 < ((s2.len : Nat) : Int)))
          (∃ (n1 : Int),
            At Pr w2 (loadVar 3 (Addr.add a1 0)) (.int .i64 n1) ∧
            brc (decide (σ1.1 < n1))
              (optK x0 fun a4 =>
                  ∃ (s3 : SV),
                  At Pr w2 (loadVar 157 (Addr.add a4 3)) (.slice s3.a s3.len s3.cap) ∧
                  ((0 : Int) ≤ σ1.1 ∧ σ1.1 < ((s3.len : Nat) : Int)) ∧
                  optK s3.a fun a5 =>
                    ∃ (str1 : ByteArray) (str2 : ByteArray) (n2 : Int),
                    At Pr w2 (loadVar 166 (Addr.add a5 (Int.toNat σ1.1 * 3))) (.agg #[(.string str1), (.string str2), (.int .i64 n2)]) ∧
                    Calls Pr 104 #[(.slice σ1.2.1.a σ1.2.1.len σ1.2.1.cap), (.agg #[(.string str1), (.string str2), (.int .i64 n2)])] w2 fun e1 w3 =>
                      ∃ (s4 : SV),
                      e1 = .returned (.slice s4.a s4.len s4.cap) ∧
                      K1 (IntKind.wrap .i64 (σ1.1 + 1), s4, ()) w3)
              (LoopT (σ := Int × SV × SV × Unit) (fun σ2 w4 K2 =>
                  ∀ _ : Env,
                  brc (decide (σ2.1 < ((σ1.2.1.len : Nat) : Int)))
                    (∃ (S1 : World → Prop),
                      S1 (World.drew w4) ∧
                      optK x0 fun a6 =>
                        ∃ (s5 : SV),
                        AtS Pr S1 (loadVar 155 (Addr.add a6 0)) (.slice s5.a s5.len s5.cap) ∧
                        ((0 : Int) ≤ σ2.1 ∧ σ2.1 < ((σ1.2.1.len : Nat) : Int)) ∧
                        optK σ1.2.1.a fun a7 =>
                          ∃ (n3 : Int),
                          AtS Pr S1 (loadVar 3 (Addr.add (Addr.add a7 (Int.toNat σ2.1 * 2)) 1)) (.int .i64 n3) ∧
                          ((0 : Int) ≤ n3 ∧ n3 < ((s5.len : Nat) : Int)) ∧
                          optK s5.a fun a8 =>
                            ∃ (s6 : SV) (n4 : Int),
                            AtS Pr S1 (loadVar 169 (Addr.add a8 (Int.toNat n3 * 2))) (.agg #[(.slice s6.a s6.len s6.cap), (.int .i64 n4)]) ∧
                            ∃ (a9 : Addr) (w5 : World),
                            Sem.run Pr (Instr.alloc 169 true (.tuple #[])) (World.drew w4) = .ok (.pointer (some a9)) w5 ∧
                            ∃ (S2 : World → Prop),
                            (∀ w, S2 w → S1 w) ∧
                            S2 w5 ∧
                            ∃ (w6 : World),
                            Sem.run Pr (Instr.storeAt 169 (.pointer (some a9)) (.agg #[(.slice s6.a s6.len s6.cap), (.int .i64 n4)])) w5 = .ok () w6 ∧
                            ∃ (S3 : World → Prop),
                            S3 w6 ∧
                            ∃ (S4 : World → Prop),
                            S4 (World.drew w6) ∧
                            ∃ (n5 : Int),
                            AtS Pr S4 (loadVar 3 (Addr.add a9 1)) (.int .i64 n5) ∧
                            ∃ (n6 : Int) (s7 : SV),
                            AtS Pr S4 (loadVar 63 a1) (.agg #[(.int .i64 n6), (.slice s7.a s7.len s7.cap)]) ∧
                            ∃ (s8 : SV),
                            AtS Pr S4 (loadVar 26 (Addr.add a9 0)) (.slice s8.a s8.len s8.cap) ∧
                            ∃ (n7 : Int),
                            AtS Pr S4 (loadVar 3 (Addr.add a9 1)) (.int .i64 n7) ∧
                            Calls Pr 111 #[(.agg #[(.int .i64 n6), (.slice s7.a s7.len s7.cap)]), (.int .i64 σ2.1), (.int .i64 (IntKind.wrap .i64 (((s8.len : Nat) : Int) - n7)))] (World.drew w6) fun e2 w7 =>
                              ∃ (n8 : Int),
                              e2 = .returned (.int .i64 n8) ∧
                              ∃ (S5 : World → Prop),
                              (∀ w, S5 w → S4 w) ∧
                              S5 w7 ∧
                              ∃ (s9 : SV) (w8 : World),
                              Sem.run Pr (Instr.buildSlice 26 0 #[]) w7 = .ok (.slice s9.a s9.len s9.cap) w8 ∧
                              ∃ (s10 : SV),
                              At Pr w8 (loadVar 26 (Addr.add a9 0)) (.slice s10.a s10.len s10.cap) ∧
                              ((0 : Int) ≤ (IntKind.wrap .i64 (n5 + n8)) ∧ (IntKind.wrap .i64 (n5 + n8)) ≤ ((s10.cap : Nat) : Int)) ∧
                              ∃ (s11 : SV) (w9 : World),
                              Sem.run Pr (Builtin.append_ #[26, 26] 26 #[(.slice s9.a s9.len s9.cap), (.slice (cutAt s10.a 0 s10.cap 1) ((Int.toNat (IntKind.wrap .i64 (n5 + n8))) - 0) (s10.cap - 0))]) w8 = .ok (.slice s11.a s11.len s11.cap) w9 ∧
                              ∃ (s12 : SV) (w10 : World),
                              Sem.run Pr (Instr.buildSlice 155 1 #[(0, (.agg #[(.slice s11.a s11.len s11.cap), (.int .i64 (IntKind.wrap .i64 (n5 + n8)))]))]) w9 = .ok (.slice s12.a s12.len s12.cap) w10 ∧
                              ∃ (s13 : SV) (w11 : World),
                              Sem.run Pr (Builtin.append_ #[155, 155] 155 #[(.slice σ2.2.1.a σ2.2.1.len σ2.2.1.cap), (.slice s12.a s12.len s12.cap)]) w10 = .ok (.slice s13.a s13.len s13.cap) w11 ∧
                              ((0 : Int) ≤ σ2.1 ∧ σ2.1 < ((σ1.2.1.len : Nat) : Int)) ∧
                              optK σ1.2.1.a fun a10 =>
                                ∃ (str3 : ByteArray),
                                At Pr w11 (loadVar 9 (Addr.add (Addr.add a10 (Int.toNat σ2.1 * 2)) 0)) (.string str3) ∧
                                ∃ (s14 : SV) (w12 : World),
                                Sem.run Pr (Instr.buildSlice 156 1 #[(0, (.agg #[(.string str3), (.int .i64 σ2.1)]))]) w11 = .ok (.slice s14.a s14.len s14.cap) w12 ∧
                                ∃ (s15 : SV) (w13 : World),
                                Sem.run Pr (Builtin.append_ #[156, 156] 156 #[(.slice σ2.2.2.1.a σ2.2.2.1.len σ2.2.2.1.cap), (.slice s14.a s14.len s14.cap)]) w12 = .ok (.slice s15.a s15.len s15.cap) w13 ∧
                                K2 (IntKind.wrap .i64 (σ2.1 + 1), s13, s15, ()) w13)
                    (optK x0 fun a11 =>
                        ∃ (w14 : World),
                        Sem.run Pr (Instr.storeAt 155 (.pointer (some (Addr.add a11 0))) (.slice σ2.2.1.a σ2.2.1.len σ2.2.1.cap)) w4 = .ok () w14 ∧
                        optK x0 fun a12 =>
                          ∃ (w15 : World),
                          Sem.run Pr (Instr.storeAt 156 (.pointer (some (Addr.add a12 1))) (.slice σ2.2.2.1.a σ2.2.2.1.len σ2.2.2.1.cap)) w14 = .ok () w15 ∧
                          ∃ (s16 : SV) (w16 : World),
                          Sem.run Pr (Instr.buildSlice 156 0 #[]) w15 = .ok (.slice s16.a s16.len s16.cap) w16 ∧
                          ∃ (s17 : SV) (w17 : World),
                          Sem.run Pr (Builtin.append_ #[156, 156] 156 #[(.slice s16.a s16.len s16.cap), (.slice σ2.2.2.1.a σ2.2.2.1.len σ2.2.2.1.cap)]) w16 = .ok (.slice s17.a s17.len s17.cap) w17 ∧
                          optK x0 fun a13 =>
                            ∃ (w18 : World),
                            Sem.run Pr (Instr.storeAt 156 (.pointer (some (Addr.add a13 2))) (.slice s17.a s17.len s17.cap)) w17 = .ok () w18 ∧
                            optK x0 fun a14 =>
                              ∃ (w19 : World),
                              Sem.run Pr (Instr.storeAt 157 (.pointer (some (Addr.add a14 3))) (.slice none 0 0)) w18 = .ok () w19 ∧
                              optK x0 fun a15 =>
                                ∃ (w20 : World),
                                Sem.run Pr (Instr.storeAt 4 (.pointer (some (Addr.add a15 5))) (.bool false)) w19 = .ok () w20 ∧
                                optK x0 fun a16 =>
                                  ∃ (w21 : World),
                                  Sem.run Pr (Instr.storeAt 4 (.pointer (some (Addr.add a16 6))) (.bool false)) w20 = .ok () w21 ∧
                                  R (.int .i64 0) w21)) (0, SV.mk none 0 0, SV.mk none 0 0, ()) w2))
          (LoopT (σ := Int × SV × SV × Unit) (fun σ3 w22 K3 =>
              ∀ _ : Env,
              brc (decide (σ3.1 < ((σ1.2.1.len : Nat) : Int)))
                (∃ (S6 : World → Prop),
                  S6 (World.drew w22) ∧
                  optK x0 fun a17 =>
                    ∃ (s18 : SV),
                    AtS Pr S6 (loadVar 155 (Addr.add a17 0)) (.slice s18.a s18.len s18.cap) ∧
                    ((0 : Int) ≤ σ3.1 ∧ σ3.1 < ((σ1.2.1.len : Nat) : Int)) ∧
                    optK σ1.2.1.a fun a18 =>
                      ∃ (n9 : Int),
                      AtS Pr S6 (loadVar 3 (Addr.add (Addr.add a18 (Int.toNat σ3.1 * 2)) 1)) (.int .i64 n9) ∧
                      ((0 : Int) ≤ n9 ∧ n9 < ((s18.len : Nat) : Int)) ∧
                      optK s18.a fun a19 =>
                        ∃ (s19 : SV) (n10 : Int),
                        AtS Pr S6 (loadVar 169 (Addr.add a19 (Int.toNat n9 * 2))) (.agg #[(.slice s19.a s19.len s19.cap), (.int .i64 n10)]) ∧
                        ∃ (a20 : Addr) (w23 : World),
                        Sem.run Pr (Instr.alloc 169 true (.tuple #[])) (World.drew w22) = .ok (.pointer (some a20)) w23 ∧
                        ∃ (S7 : World → Prop),
                        (∀ w, S7 w → S6 w) ∧
                        S7 w23 ∧
                        ∃ (w24 : World),
                        Sem.run Pr (Instr.storeAt 169 (.pointer (some a20)) (.agg #[(.slice s19.a s19.len s19.cap), (.int .i64 n10)])) w23 = .ok () w24 ∧
                        ∃ (S8 : World → Prop),
                        S8 w24 ∧
                        ∃ (S9 : World → Prop),
                        S9 (World.drew w24) ∧
                        ∃ (n11 : Int),
                        AtS Pr S9 (loadVar 3 (Addr.add a20 1)) (.int .i64 n11) ∧
                        ∃ (n12 : Int) (s20 : SV),
                        AtS Pr S9 (loadVar 63 a1) (.agg #[(.int .i64 n12), (.slice s20.a s20.len s20.cap)]) ∧
                        ∃ (s21 : SV),
                        AtS Pr S9 (loadVar 26 (Addr.add a20 0)) (.slice s21.a s21.len s21.cap) ∧
                        ∃ (n13 : Int),
                        AtS Pr S9 (loadVar 3 (Addr.add a20 1)) (.int .i64 n13) ∧
                        Calls Pr 111 #[(.agg #[(.int .i64 n12), (.slice s20.a s20.len s20.cap)]), (.int .i64 σ3.1), (.int .i64 (IntKind.wrap .i64 (((s21.len : Nat) : Int) - n13)))] (World.drew w24) fun e3 w25 =>
                          ∃ (n14 : Int),
                          e3 = .returned (.int .i64 n14) ∧
                          ∃ (S10 : World → Prop),
                          (∀ w, S10 w → S9 w) ∧
                          S10 w25 ∧
                          ∃ (s22 : SV) (w26 : World),
                          Sem.run Pr (Instr.buildSlice 26 0 #[]) w25 = .ok (.slice s22.a s22.len s22.cap) w26 ∧
                          ∃ (s23 : SV),
                          At Pr w26 (loadVar 26 (Addr.add a20 0)) (.slice s23.a s23.len s23.cap) ∧
                          ((0 : Int) ≤ (IntKind.wrap .i64 (n11 + n14)) ∧ (IntKind.wrap .i64 (n11 + n14)) ≤ ((s23.cap : Nat) : Int)) ∧
                          ∃ (s24 : SV) (w27 : World),
                          Sem.run Pr (Builtin.append_ #[26, 26] 26 #[(.slice s22.a s22.len s22.cap), (.slice (cutAt s23.a 0 s23.cap 1) ((Int.toNat (IntKind.wrap .i64 (n11 + n14))) - 0) (s23.cap - 0))]) w26 = .ok (.slice s24.a s24.len s24.cap) w27 ∧
                          ∃ (s25 : SV) (w28 : World),
                          Sem.run Pr (Instr.buildSlice 155 1 #[(0, (.agg #[(.slice s24.a s24.len s24.cap), (.int .i64 (IntKind.wrap .i64 (n11 + n14)))]))]) w27 = .ok (.slice s25.a s25.len s25.cap) w28 ∧
                          ∃ (s26 : SV) (w29 : World),
                          Sem.run Pr (Builtin.append_ #[155, 155] 155 #[(.slice σ3.2.1.a σ3.2.1.len σ3.2.1.cap), (.slice s25.a s25.len s25.cap)]) w28 = .ok (.slice s26.a s26.len s26.cap) w29 ∧
                          ((0 : Int) ≤ σ3.1 ∧ σ3.1 < ((σ1.2.1.len : Nat) : Int)) ∧
                          optK σ1.2.1.a fun a21 =>
                            ∃ (str4 : ByteArray),
                            At Pr w29 (loadVar 9 (Addr.add (Addr.add a21 (Int.toNat σ3.1 * 2)) 0)) (.string str4) ∧
                            ∃ (s27 : SV) (w30 : World),
                            Sem.run Pr (Instr.buildSlice 156 1 #[(0, (.agg #[(.string str4), (.int .i64 σ3.1)]))]) w29 = .ok (.slice s27.a s27.len s27.cap) w30 ∧
                            ∃ (s28 : SV) (w31 : World),
                            Sem.run Pr (Builtin.append_ #[156, 156] 156 #[(.slice σ3.2.2.1.a σ3.2.2.1.len σ3.2.2.1.cap), (.slice s27.a s27.len s27.cap)]) w30 = .ok (.slice s28.a s28.len s28.cap) w31 ∧
                            K3 (IntKind.wrap .i64 (σ3.1 + 1), s26, s28, ()) w31)
                (optK x0 fun a22 =>
                    ∃ (w32 : World),
                    Sem.run Pr (Instr.storeAt 155 (.pointer (some (Addr.add a22 0))) (.slice σ3.2.1.a σ3.2.1.len σ3.2.1.cap)) w22 = .ok () w32 ∧
                    optK x0 fun a23 =>
                      ∃ (w33 : World),
                      Sem.run Pr (Instr.storeAt 156 (.pointer (some (Addr.add a23 1))) (.slice σ3.2.2.1.a σ3.2.2.1.len σ3.2.2.1.cap)) w32 = .ok () w33 ∧
                      ∃ (s29 : SV) (w34 : World),
                      Sem.run Pr (Instr.buildSlice 156 0 #[]) w33 = .ok (.slice s29.a s29.len s29.cap) w34 ∧
                      ∃ (s30 : SV) (w35 : World),
                      Sem.run Pr (Builtin.append_ #[156, 156] 156 #[(.slice s29.a s29.len s29.cap), (.slice σ3.2.2.1.a σ3.2.2.1.len σ3.2.2.1.cap)]) w34 = .ok (.slice s30.a s30.len s30.cap) w35 ∧
                      optK x0 fun a24 =>
                        ∃ (w36 : World),
                        Sem.run Pr (Instr.storeAt 156 (.pointer (some (Addr.add a24 2))) (.slice s30.a s30.len s30.cap)) w35 = .ok () w36 ∧
                        optK x0 fun a25 =>
                          ∃ (w37 : World),
                          Sem.run Pr (Instr.storeAt 157 (.pointer (some (Addr.add a25 3))) (.slice none 0 0)) w36 = .ok () w37 ∧
                          optK x0 fun a26 =>
                            ∃ (w38 : World),
                            Sem.run Pr (Instr.storeAt 4 (.pointer (some (Addr.add a26 5))) (.bool false)) w37 = .ok () w38 ∧
                            optK x0 fun a27 =>
                              ∃ (w39 : World),
                              Sem.run Pr (Instr.storeAt 4 (.pointer (some (Addr.add a27 6))) (.bool false)) w38 = .ok () w39 ∧
                              R (.int .i64 0) w39)) (0, SV.mk none 0 0, SV.mk none 0 0, ()) w2)) (0, s1, ()) w1

theorem call46 {x0 : Option Addr} {x1_Names : Int} {x1_Bytes : SV} {w0 : World} {R : Ending → World → Prop} (h : ir46 x0 x1_Names x1_Bytes w0 fun v w => R (.returned v) w) : Calls Pr 46 #[.pointer x0, .agg #[(.int .i64 x1_Names), (.slice x1_Bytes.a x1_Bytes.len x1_Bytes.cap)]] w0 R := by
  refine calls_of_vc (ann := [(3, [(6, .int .i64), (5, .slice)]), (9, [(9, .int .i64), (7, .slice), (8, .slice)])]) (E := []) (args := [.pointer x0, .agg #[(.int .i64 x1_Names), (.slice x1_Bytes.a x1_Bytes.len x1_Bytes.cap)]]) follows Try.func46 rfl (by kernel_rfl) ?_
  apply by_eq h
  kernel_rfl

/-- (*creel/creelref04.Disk).Doom -/
def ir59 (x0 : Option Addr) (x1 : Int) (w0 : World) (R : Value → World → Prop) : Prop :=
  brc (decide (x1 < (0 : Int)))
    (R (.int .i64 1) w0)
    (optK x0 fun a1 =>
        ∃ (w1 : World),
        Sem.run Pr (Instr.storeAt 4 (.pointer (some (Addr.add a1 6))) (.bool true)) w0 = .ok () w1 ∧
        optK x0 fun a2 =>
          ∃ (w2 : World),
          Sem.run Pr (Instr.storeAt 3 (.pointer (some (Addr.add a2 7))) (.int .i64 x1)) w1 = .ok () w2 ∧
          R (.int .i64 0) w2)

theorem call59 {x0 : Option Addr} {x1 : Int} {w0 : World} {R : Ending → World → Prop} (h : ir59 x0 x1 w0 fun v w => R (.returned v) w) : Calls Pr 59 #[.pointer x0, .int .i64 x1] w0 R := by
  refine calls_of_vc (ann := []) (E := []) (args := [.pointer x0, .int .i64 x1]) follows Try.func59 rfl (by kernel_rfl) ?_
  apply by_eq h
  kernel_rfl

/-- (*creel/creelref04.Disk).Read -/
def ir64 (x0 : Option Addr) (x1 : ByteArray) (w0 : World) (R : Value → World → Prop) : Prop :=
  Calls Pr 126 #[(.pointer x0)] w0 fun e1 w1 =>
    ∃ (b1 : Bool),
    e1 = .returned (.bool b1) ∧
    brc (b1)
      (R (.tuple #[(.slice none 0 0), (.int .i64 40)]) w1)
      (optK x0 fun a1 =>
          ∃ (s1 : SV),
          At Pr w1 (loadVar 156 (Addr.add a1 1)) (.slice s1.a s1.len s1.cap) ∧
          Calls Pr 105 #[(.slice s1.a s1.len s1.cap), (.string x1)] w1 fun e2 w2 =>
            ∃ (n1 : Int),
            e2 = .returned (.int .i64 n1) ∧
            brc (decide (n1 < (0 : Int)))
              (R (.tuple #[(.slice none 0 0), (.int .i64 2)]) w2)
              (∃ (s2 : SV) (w3 : World),
                Sem.run Pr (Instr.buildSlice 26 0 #[]) w2 = .ok (.slice s2.a s2.len s2.cap) w3 ∧
                optK x0 fun a2 =>
                  ∃ (s3 : SV),
                  At Pr w3 (loadVar 155 (Addr.add a2 0)) (.slice s3.a s3.len s3.cap) ∧
                  ((0 : Int) ≤ n1 ∧ n1 < ((s3.len : Nat) : Int)) ∧
                  optK s3.a fun a3 =>
                    ∃ (s4 : SV),
                    At Pr w3 (loadVar 26 (Addr.add (Addr.add a3 (Int.toNat n1 * 2)) 0)) (.slice s4.a s4.len s4.cap) ∧
                    ∃ (s5 : SV) (w4 : World),
                    Sem.run Pr (Builtin.append_ #[26, 26] 26 #[(.slice s2.a s2.len s2.cap), (.slice s4.a s4.len s4.cap)]) w3 = .ok (.slice s5.a s5.len s5.cap) w4 ∧
                    R (.tuple #[(.slice s5.a s5.len s5.cap), (.int .i64 0)]) w4))

theorem call64 {x0 : Option Addr} {x1 : ByteArray} {w0 : World} {R : Ending → World → Prop} (h : ir64 x0 x1 w0 fun v w => R (.returned v) w) : Calls Pr 64 #[.pointer x0, .string x1] w0 R := by
  refine calls_of_vc (ann := []) (E := []) (args := [.pointer x0, .string x1]) follows Try.func64 rfl (by kernel_rfl) ?_
  apply by_eq h
  kernel_rfl

/-- (*creel/creelref04.Disk).Create -/
def ir96 (x0 : Option Addr) (x1 : ByteArray) (w0 : World) (R : Value → World → Prop) : Prop :=
  Calls Pr 126 #[(.pointer x0)] w0 fun e1 w1 =>
    ∃ (b1 : Bool),
    e1 = .returned (.bool b1) ∧
    brc (b1)
      (R (.int .i64 40) w1)
      (Calls Pr 141 #[(.string x1)] w1 fun e2 w2 =>
          ∃ (b2 : Bool),
          e2 = .returned (.bool b2) ∧
          brc (!b2)
            (R (.int .i64 1) w2)
            (optK x0 fun a1 =>
                ∃ (s1 : SV),
                At Pr w2 (loadVar 156 (Addr.add a1 1)) (.slice s1.a s1.len s1.cap) ∧
                Calls Pr 105 #[(.slice s1.a s1.len s1.cap), (.string x1)] w2 fun e3 w3 =>
                  ∃ (n1 : Int),
                  e3 = .returned (.int .i64 n1) ∧
                  brc (decide (n1 ≥ (0 : Int)))
                    (R (.int .i64 4) w3)
                    (∃ (s2 : SV) (w4 : World),
                      Sem.run Pr (Instr.buildSlice 155 0 #[]) w3 = .ok (.slice s2.a s2.len s2.cap) w4 ∧
                      optK x0 fun a2 =>
                        ∃ (s3 : SV),
                        At Pr w4 (loadVar 155 (Addr.add a2 0)) (.slice s3.a s3.len s3.cap) ∧
                        ∃ (s4 : SV) (w5 : World),
                        Sem.run Pr (Builtin.append_ #[155, 155] 155 #[(.slice s2.a s2.len s2.cap), (.slice s3.a s3.len s3.cap)]) w4 = .ok (.slice s4.a s4.len s4.cap) w5 ∧
                        ∃ (s5 : SV) (w6 : World),
                        Sem.run Pr (Instr.buildSlice 155 1 #[(0, (.agg #[(.slice none 0 0), (.int .i64 0)]))]) w5 = .ok (.slice s5.a s5.len s5.cap) w6 ∧
                        ∃ (s6 : SV) (w7 : World),
                        Sem.run Pr (Builtin.append_ #[155, 155] 155 #[(.slice s4.a s4.len s4.cap), (.slice s5.a s5.len s5.cap)]) w6 = .ok (.slice s6.a s6.len s6.cap) w7 ∧
                        optK x0 fun a3 =>
                          ∃ (w8 : World),
                          Sem.run Pr (Instr.storeAt 155 (.pointer (some (Addr.add a3 0))) (.slice s6.a s6.len s6.cap)) w7 = .ok () w8 ∧
                          optK x0 fun a4 =>
                            ∃ (s7 : SV),
                            At Pr w8 (loadVar 155 (Addr.add a4 0)) (.slice s7.a s7.len s7.cap) ∧
                            Calls Pr 142 #[(.pointer x0), (.agg #[(.string ByteArray.empty), (.string x1), (.int .i64 (IntKind.wrap .i64 (((s7.len : Nat) : Int) - 1)))])] w8 fun e4 w9 =>
                              e4 = .returned (.tuple #[]) ∧
                              R (.int .i64 0) w9)))

theorem call96 {x0 : Option Addr} {x1 : ByteArray} {w0 : World} {R : Ending → World → Prop} (h : ir96 x0 x1 w0 fun v w => R (.returned v) w) : Calls Pr 96 #[.pointer x0, .string x1] w0 R := by
  refine calls_of_vc (ann := []) (E := []) (args := [.pointer x0, .string x1]) follows Try.func96 rfl (by kernel_rfl) ?_
  apply by_eq h
  kernel_rfl

/-- (*creel/creelref04.Disk).Sync -/
def ir97 (x0 : Option Addr) (x1 : ByteArray) (w0 : World) (R : Value → World → Prop) : Prop :=
  Calls Pr 126 #[(.pointer x0)] w0 fun e1 w1 =>
    ∃ (b1 : Bool),
    e1 = .returned (.bool b1) ∧
    brc (b1)
      (R (.int .i64 40) w1)
      (optK x0 fun a1 =>
          ∃ (s1 : SV),
          At Pr w1 (loadVar 156 (Addr.add a1 1)) (.slice s1.a s1.len s1.cap) ∧
          Calls Pr 105 #[(.slice s1.a s1.len s1.cap), (.string x1)] w1 fun e2 w2 =>
            ∃ (n1 : Int),
            e2 = .returned (.int .i64 n1) ∧
            brc (decide (n1 < (0 : Int)))
              (R (.int .i64 2) w2)
              (∃ (S1 : World → Prop),
                S1 (World.drew w2) ∧
                optK x0 fun a2 =>
                  ∃ (s2 : SV),
                  AtS Pr S1 (loadVar 155 (Addr.add a2 0)) (.slice s2.a s2.len s2.cap) ∧
                  optK x0 fun a3 =>
                    ∃ (s3 : SV),
                    AtS Pr S1 (loadVar 155 (Addr.add a3 0)) (.slice s3.a s3.len s3.cap) ∧
                    ((0 : Int) ≤ n1 ∧ n1 < ((s3.len : Nat) : Int)) ∧
                    optK s3.a fun a4 =>
                      ∃ (s4 : SV),
                      AtS Pr S1 (loadVar 26 (Addr.add (Addr.add a4 (Int.toNat n1 * 2)) 0)) (.slice s4.a s4.len s4.cap) ∧
                      ((0 : Int) ≤ n1 ∧ n1 < ((s2.len : Nat) : Int)) ∧
                      optK s2.a fun a5 =>
                        ∃ (w3 : World),
                        Sem.run Pr (Instr.storeAt 3 (.pointer (some (Addr.add (Addr.add a5 (Int.toNat n1 * 2)) 1))) (.int .i64 ((s4.len : Nat) : Int))) (World.drew w2) = .ok () w3 ∧
                        ∃ (S2 : World → Prop),
                        S2 w3 ∧
                        R (.int .i64 0) w3))

theorem call97 {x0 : Option Addr} {x1 : ByteArray} {w0 : World} {R : Ending → World → Prop} (h : ir97 x0 x1 w0 fun v w => R (.returned v) w) : Calls Pr 97 #[.pointer x0, .string x1] w0 R := by
  refine calls_of_vc (ann := []) (E := []) (args := [.pointer x0, .string x1]) follows Try.func97 rfl (by kernel_rfl) ?_
  apply by_eq h
  kernel_rfl

/-- (*creel/creelref04.Disk).Rename -/
def ir98 (x0 : Option Addr) (x1 : ByteArray) (x2 : ByteArray) (w0 : World) (R : Value → World → Prop) : Prop :=
  Calls Pr 126 #[(.pointer x0)] w0 fun e1 w1 =>
    ∃ (b1 : Bool),
    e1 = .returned (.bool b1) ∧
    brc (b1)
      (R (.int .i64 40) w1)
      (optK x0 fun a1 =>
          ∃ (s1 : SV),
          At Pr w1 (loadVar 156 (Addr.add a1 1)) (.slice s1.a s1.len s1.cap) ∧
          Calls Pr 105 #[(.slice s1.a s1.len s1.cap), (.string x1)] w1 fun e2 w2 =>
            ∃ (n1 : Int),
            e2 = .returned (.int .i64 n1) ∧
            brc (decide (n1 < (0 : Int)))
              (R (.int .i64 2) w2)
              (Calls Pr 141 #[(.string x2)] w2 fun e3 w3 =>
                  ∃ (b2 : Bool),
                  e3 = .returned (.bool b2) ∧
                  brc (!b2)
                    (R (.int .i64 1) w3)
                    (Calls Pr 142 #[(.pointer x0), (.agg #[(.string x1), (.string x2), (.int .i64 0)])] w3 fun e4 w4 =>
                        e4 = .returned (.tuple #[]) ∧
                        R (.int .i64 0) w4)))

theorem call98 {x0 : Option Addr} {x1 : ByteArray} {x2 : ByteArray} {w0 : World} {R : Ending → World → Prop} (h : ir98 x0 x1 x2 w0 fun v w => R (.returned v) w) : Calls Pr 98 #[.pointer x0, .string x1, .string x2] w0 R := by
  refine calls_of_vc (ann := []) (E := []) (args := [.pointer x0, .string x1, .string x2]) follows Try.func98 rfl (by kernel_rfl) ?_
  apply by_eq h
  kernel_rfl

/-- (*creel/creelref04.Disk).Remove -/
def ir99 (x0 : Option Addr) (x1 : ByteArray) (w0 : World) (R : Value → World → Prop) : Prop :=
  Calls Pr 126 #[(.pointer x0)] w0 fun e1 w1 =>
    ∃ (b1 : Bool),
    e1 = .returned (.bool b1) ∧
    brc (b1)
      (R (.int .i64 40) w1)
      (optK x0 fun a1 =>
          ∃ (s1 : SV),
          At Pr w1 (loadVar 156 (Addr.add a1 1)) (.slice s1.a s1.len s1.cap) ∧
          Calls Pr 105 #[(.slice s1.a s1.len s1.cap), (.string x1)] w1 fun e2 w2 =>
            ∃ (n1 : Int),
            e2 = .returned (.int .i64 n1) ∧
            brc (decide (n1 < (0 : Int)))
              (R (.int .i64 2) w2)
              (Calls Pr 142 #[(.pointer x0), (.agg #[(.string x1), (.string ByteArray.empty), (.int .i64 0)])] w2 fun e3 w3 =>
                  e3 = .returned (.tuple #[]) ∧
                  R (.int .i64 0) w3))

theorem call99 {x0 : Option Addr} {x1 : ByteArray} {w0 : World} {R : Ending → World → Prop} (h : ir99 x0 x1 w0 fun v w => R (.returned v) w) : Calls Pr 99 #[.pointer x0, .string x1] w0 R := by
  refine calls_of_vc (ann := []) (E := []) (args := [.pointer x0, .string x1]) follows Try.func99 rfl (by kernel_rfl) ?_
  apply by_eq h
  kernel_rfl

/-- (*creel/creelref04.Disk).SyncNames -/
def ir100 (x0 : Option Addr) (w0 : World) (R : Value → World → Prop) : Prop :=
  Calls Pr 126 #[(.pointer x0)] w0 fun e1 w1 =>
    ∃ (b1 : Bool),
    e1 = .returned (.bool b1) ∧
    brc (b1)
      (R (.int .i64 40) w1)
      (∃ (s1 : SV) (w2 : World),
        Sem.run Pr (Instr.buildSlice 156 0 #[]) w1 = .ok (.slice s1.a s1.len s1.cap) w2 ∧
        optK x0 fun a1 =>
          ∃ (s2 : SV),
          At Pr w2 (loadVar 156 (Addr.add a1 1)) (.slice s2.a s2.len s2.cap) ∧
          ∃ (s3 : SV) (w3 : World),
          Sem.run Pr (Builtin.append_ #[156, 156] 156 #[(.slice s1.a s1.len s1.cap), (.slice s2.a s2.len s2.cap)]) w2 = .ok (.slice s3.a s3.len s3.cap) w3 ∧
          optK x0 fun a2 =>
            ∃ (w4 : World),
            Sem.run Pr (Instr.storeAt 156 (.pointer (some (Addr.add a2 2))) (.slice s3.a s3.len s3.cap)) w3 = .ok () w4 ∧
            optK x0 fun a3 =>
              ∃ (w5 : World),
              Sem.run Pr (Instr.storeAt 157 (.pointer (some (Addr.add a3 3))) (.slice none 0 0)) w4 = .ok () w5 ∧
              R (.int .i64 0) w5)

theorem call100 {x0 : Option Addr} {w0 : World} {R : Ending → World → Prop} (h : ir100 x0 w0 fun v w => R (.returned v) w) : Calls Pr 100 #[.pointer x0] w0 R := by
  refine calls_of_vc (ann := []) (E := []) (args := [.pointer x0]) follows Try.func100 rfl (by kernel_rfl) ?_
  apply by_eq h
  kernel_rfl

/-- (*creel/creelref04.Disk).Names -/
def ir101 (x0 : Option Addr) (w0 : World) (R : Value → World → Prop) : Prop :=
  Calls Pr 126 #[(.pointer x0)] w0 fun e1 w1 =>
    ∃ (b1 : Bool),
    e1 = .returned (.bool b1) ∧
    brc (b1)
      (R (.tuple #[(.slice none 0 0), (.int .i64 40)]) w1)
      (LoopT (σ := Int × SV × Unit) (fun σ1 w2 K1 =>
          ∀ _ : Env,
          optK x0 fun a1 =>
            ∃ (s1 : SV),
            At Pr w2 (loadVar 156 (Addr.add a1 1)) (.slice s1.a s1.len s1.cap) ∧
            brc (decide (σ1.1 < ((s1.len : Nat) : Int)))
              (optK x0 fun a2 =>
                  ∃ (s2 : SV),
                  At Pr w2 (loadVar 156 (Addr.add a2 1)) (.slice s2.a s2.len s2.cap) ∧
                  ((0 : Int) ≤ σ1.1 ∧ σ1.1 < ((s2.len : Nat) : Int)) ∧
                  optK s2.a fun a3 =>
                    ∃ (str1 : ByteArray),
                    At Pr w2 (loadVar 9 (Addr.add (Addr.add a3 (Int.toNat σ1.1 * 2)) 0)) (.string str1) ∧
                    ∃ (s3 : SV) (w3 : World),
                    Sem.run Pr (Instr.buildSlice 78 1 #[(0, (.string str1))]) w2 = .ok (.slice s3.a s3.len s3.cap) w3 ∧
                    ∃ (s4 : SV) (w4 : World),
                    Sem.run Pr (Builtin.append_ #[78, 78] 78 #[(.slice σ1.2.1.a σ1.2.1.len σ1.2.1.cap), (.slice s3.a s3.len s3.cap)]) w3 = .ok (.slice s4.a s4.len s4.cap) w4 ∧
                    K1 (IntKind.wrap .i64 (σ1.1 + 1), s4, ()) w4)
              (R (.tuple #[(.slice σ1.2.1.a σ1.2.1.len σ1.2.1.cap), (.int .i64 0)]) w2)) (0, SV.mk none 0 0, ()) w1)

theorem call101 {x0 : Option Addr} {w0 : World} {R : Ending → World → Prop} (h : ir101 x0 w0 fun v w => R (.returned v) w) : Calls Pr 101 #[.pointer x0] w0 R := by
  refine calls_of_vc (ann := [(5, [(5, .int .i64), (4, .slice)])]) (E := []) (args := [.pointer x0]) follows Try.func101 rfl (by kernel_rfl) ?_
  apply by_eq h
  kernel_rfl

/-- (*creel/creelref04.Disk).Grow -/
def ir102 (x0 : Option Addr) (x1 : Int) (w0 : World) (R : Value → World → Prop) : Prop :=
  brc (decide (x1 < (0 : Int)))
    (R (.int .i64 1) w0)
    (optK x0 fun a1 =>
        ∃ (w1 : World),
        Sem.run Pr (Instr.storeAt 3 (.pointer (some (Addr.add a1 4))) (.int .i64 x1)) w0 = .ok () w1 ∧
        R (.int .i64 0) w1)

theorem call102 {x0 : Option Addr} {x1 : Int} {w0 : World} {R : Ending → World → Prop} (h : ir102 x0 x1 w0 fun v w => R (.returned v) w) : Calls Pr 102 #[.pointer x0, .int .i64 x1] w0 R := by
  refine calls_of_vc (ann := []) (E := []) (args := [.pointer x0, .int .i64 x1]) follows Try.func102 rfl (by kernel_rfl) ?_
  apply by_eq h
  kernel_rfl

/-- (*creel/creelref04.Disk).Append -/
def ir103 (x0 : Option Addr) (x1 : ByteArray) (x2 : SV) (w0 : World) (R : Value → World → Prop) : Prop :=
  Calls Pr 126 #[(.pointer x0)] w0 fun e1 w1 =>
    ∃ (b1 : Bool),
    e1 = .returned (.bool b1) ∧
    brc (b1)
      (R (.int .i64 40) w1)
      (optK x0 fun a1 =>
          ∃ (s1 : SV),
          At Pr w1 (loadVar 156 (Addr.add a1 1)) (.slice s1.a s1.len s1.cap) ∧
          Calls Pr 105 #[(.slice s1.a s1.len s1.cap), (.string x1)] w1 fun e2 w2 =>
            ∃ (n1 : Int),
            e2 = .returned (.int .i64 n1) ∧
            brc (decide (n1 < (0 : Int)))
              (R (.int .i64 2) w2)
              (∃ (S1 : World → Prop),
                S1 (World.drew w2) ∧
                optK x0 fun a2 =>
                  ∃ (n2 : Int),
                  AtS Pr S1 (loadVar 3 (Addr.add a2 4)) (.int .i64 n2) ∧
                  Calls Pr 41 #[(.pointer x0)] (World.drew w2) fun e3 w3 =>
                    ∃ (n3 : Int),
                    e3 = .returned (.int .i64 n3) ∧
                    ∃ (S2 : World → Prop),
                    (∀ w, S2 w → S1 w) ∧
                    S2 w3 ∧
                    brc (decide ((IntKind.wrap .i64 (n3 + ((x2.len : Nat) : Int))) > n2))
                      (R (.int .i64 41) w3)
                      (optK x0 fun a3 =>
                          ∃ (s2 : SV),
                          At Pr w3 (loadVar 155 (Addr.add a3 0)) (.slice s2.a s2.len s2.cap) ∧
                          ((0 : Int) ≤ n1 ∧ n1 < ((s2.len : Nat) : Int)) ∧
                          optK s2.a fun a4 =>
                            ∃ (s3 : SV) (n4 : Int),
                            At Pr w3 (loadVar 169 (Addr.add a4 (Int.toNat n1 * 2))) (.agg #[(.slice s3.a s3.len s3.cap), (.int .i64 n4)]) ∧
                            ∃ (a5 : Addr) (w4 : World),
                            Sem.run Pr (Instr.alloc 169 true (.tuple #[])) w3 = .ok (.pointer (some a5)) w4 ∧
                            ∃ (w5 : World),
                            Sem.run Pr (Instr.storeAt 169 (.pointer (some a5)) (.agg #[(.slice s3.a s3.len s3.cap), (.int .i64 n4)])) w4 = .ok () w5 ∧
                            ∃ (s4 : SV) (w6 : World),
                            Sem.run Pr (Instr.buildSlice 26 0 #[]) w5 = .ok (.slice s4.a s4.len s4.cap) w6 ∧
                            ∃ (s5 : SV),
                            At Pr w6 (loadVar 26 (Addr.add a5 0)) (.slice s5.a s5.len s5.cap) ∧
                            ∃ (s6 : SV) (w7 : World),
                            Sem.run Pr (Builtin.append_ #[26, 26] 26 #[(.slice s4.a s4.len s4.cap), (.slice s5.a s5.len s5.cap)]) w6 = .ok (.slice s6.a s6.len s6.cap) w7 ∧
                            ∃ (s7 : SV) (w8 : World),
                            Sem.run Pr (Builtin.append_ #[26, 26] 26 #[(.slice s6.a s6.len s6.cap), (.slice x2.a x2.len x2.cap)]) w7 = .ok (.slice s7.a s7.len s7.cap) w8 ∧
                            ∃ (w9 : World),
                            Sem.run Pr (Instr.storeAt 26 (.pointer (some (Addr.add a5 0))) (.slice s7.a s7.len s7.cap)) w8 = .ok () w9 ∧
                            ∃ (S3 : World → Prop),
                            S3 (World.drew w9) ∧
                            optK x0 fun a6 =>
                              ∃ (s8 : SV),
                              AtS Pr S3 (loadVar 155 (Addr.add a6 0)) (.slice s8.a s8.len s8.cap) ∧
                              ∃ (s9 : SV) (n5 : Int),
                              AtS Pr S3 (loadVar 169 a5) (.agg #[(.slice s9.a s9.len s9.cap), (.int .i64 n5)]) ∧
                              ((0 : Int) ≤ n1 ∧ n1 < ((s8.len : Nat) : Int)) ∧
                              optK s8.a fun a7 =>
                                ∃ (w10 : World),
                                Sem.run Pr (Instr.storeAt 169 (.pointer (some (Addr.add a7 (Int.toNat n1 * 2)))) (.agg #[(.slice s9.a s9.len s9.cap), (.int .i64 n5)])) (World.drew w9) = .ok () w10 ∧
                                ∃ (S4 : World → Prop),
                                S4 w10 ∧
                                R (.int .i64 0) w10)))

theorem call103 {x0 : Option Addr} {x1 : ByteArray} {x2 : SV} {w0 : World} {R : Ending → World → Prop} (h : ir103 x0 x1 x2 w0 fun v w => R (.returned v) w) : Calls Pr 103 #[.pointer x0, .string x1, .slice x2.a x2.len x2.cap] w0 R := by
  refine calls_of_vc (ann := []) (E := []) (args := [.pointer x0, .string x1, .slice x2.a x2.len x2.cap]) follows Try.func103 rfl (by kernel_rfl) ?_
  apply by_eq h
  kernel_rfl

/-- creel/creelref04.change -/
def ir104 (x0 : SV) (x1_From : ByteArray) (x1_To : ByteArray) (x1_File : Int) (w0 : World) (R : Value → World → Prop) : Prop :=
  ∃ (a1 : Addr) (w1 : World),
  Sem.run Pr (Instr.box 166 (.agg #[(.string x1_From), (.string x1_To), (.int .i64 x1_File)])) w0 = .ok (.pointer (some a1)) w1 ∧
  ∃ (str1 : ByteArray),
  At Pr w1 (loadVar 9 (Addr.add a1 0)) (.string str1) ∧
  brc ((ByteArray.toList str1 == ByteArray.toList (⟨#[]⟩ : ByteArray)))
    (∃ (str2 : ByteArray),
      At Pr w1 (loadVar 9 (Addr.add a1 1)) (.string str2) ∧
      ∃ (n1 : Int),
      At Pr w1 (loadVar 3 (Addr.add a1 2)) (.int .i64 n1) ∧
      Calls Pr 143 #[(.slice x0.a x0.len x0.cap), (.string str2), (.int .i64 n1)] w1 fun e1 w2 =>
        ∃ (s1 : SV),
        e1 = .returned (.slice s1.a s1.len s1.cap) ∧
        R (.slice s1.a s1.len s1.cap) w2)
    (∃ (str3 : ByteArray),
      At Pr w1 (loadVar 9 (Addr.add a1 0)) (.string str3) ∧
      Calls Pr 105 #[(.slice x0.a x0.len x0.cap), (.string str3)] w1 fun e2 w3 =>
        ∃ (n2 : Int),
        e2 = .returned (.int .i64 n2) ∧
        ∃ (str4 : ByteArray),
        At Pr w3 (loadVar 9 (Addr.add a1 0)) (.string str4) ∧
        Calls Pr 144 #[(.slice x0.a x0.len x0.cap), (.string str4)] w3 fun e3 w4 =>
          ∃ (s2 : SV),
          e3 = .returned (.slice s2.a s2.len s2.cap) ∧
          ∃ (str5 : ByteArray),
          At Pr w4 (loadVar 9 (Addr.add a1 1)) (.string str5) ∧
          brc ((ByteArray.toList str5 == ByteArray.toList (⟨#[]⟩ : ByteArray)))
            (R (.slice s2.a s2.len s2.cap) w4)
            (∃ (str6 : ByteArray),
              At Pr w4 (loadVar 9 (Addr.add a1 1)) (.string str6) ∧
              Calls Pr 143 #[(.slice s2.a s2.len s2.cap), (.string str6), (.int .i64 n2)] w4 fun e4 w5 =>
                ∃ (s3 : SV),
                e4 = .returned (.slice s3.a s3.len s3.cap) ∧
                R (.slice s3.a s3.len s3.cap) w5))

theorem call104 {x0 : SV} {x1_From : ByteArray} {x1_To : ByteArray} {x1_File : Int} {w0 : World} {R : Ending → World → Prop} (h : ir104 x0 x1_From x1_To x1_File w0 fun v w => R (.returned v) w) : Calls Pr 104 #[.slice x0.a x0.len x0.cap, .agg #[(.string x1_From), (.string x1_To), (.int .i64 x1_File)]] w0 R := by
  refine calls_of_vc (ann := []) (E := []) (args := [.slice x0.a x0.len x0.cap, .agg #[(.string x1_From), (.string x1_To), (.int .i64 x1_File)]]) follows Try.func104 rfl (by kernel_rfl) ?_
  apply by_eq h
  kernel_rfl

/-- creel/creelref04.find -/
def ir105 (x0 : SV) (x1 : ByteArray) (w0 : World) (R : Value → World → Prop) : Prop :=
  LoopT (σ := Int × Unit) (fun σ1 w1 K1 =>
    ∀ _ : Env,
    brc (decide (σ1.1 < ((x0.len : Nat) : Int)))
      (((0 : Int) ≤ σ1.1 ∧ σ1.1 < ((x0.len : Nat) : Int)) ∧
        optK x0.a fun a1 =>
          ∃ (str1 : ByteArray),
          At Pr w1 (loadVar 9 (Addr.add (Addr.add a1 (Int.toNat σ1.1 * 2)) 0)) (.string str1) ∧
          brc ((ByteArray.toList str1 == ByteArray.toList x1))
            (((0 : Int) ≤ σ1.1 ∧ σ1.1 < ((x0.len : Nat) : Int)) ∧
              optK x0.a fun a2 =>
                ∃ (n1 : Int),
                At Pr w1 (loadVar 3 (Addr.add (Addr.add a2 (Int.toNat σ1.1 * 2)) 1)) (.int .i64 n1) ∧
                R (.int .i64 n1) w1)
            (K1 (IntKind.wrap .i64 (σ1.1 + 1), ()) w1))
      (R (.int .i64 (-1)) w1)) (0, ()) w0

theorem call105 {x0 : SV} {x1 : ByteArray} {w0 : World} {R : Ending → World → Prop} (h : ir105 x0 x1 w0 fun v w => R (.returned v) w) : Calls Pr 105 #[.slice x0.a x0.len x0.cap, .string x1] w0 R := by
  refine calls_of_vc (ann := [(2, [(5, .int .i64)])]) (E := []) (args := [.slice x0.a x0.len x0.cap, .string x1]) follows Try.func105 rfl (by kernel_rfl) ?_
  apply by_eq h
  kernel_rfl

/-- creel/creelref04.left -/
def ir111 (x0_Names : Int) (x0_Bytes : SV) (x1 : Int) (x2 : Int) (w0 : World) (R : Value → World → Prop) : Prop :=
  ∃ (a1 : Addr) (w1 : World),
  Sem.run Pr (Instr.box 63 (.agg #[(.int .i64 x0_Names), (.slice x0_Bytes.a x0_Bytes.len x0_Bytes.cap)])) w0 = .ok (.pointer (some a1)) w1 ∧
  ∃ (s1 : SV),
  At Pr w1 (loadVar 61 (Addr.add a1 1)) (.slice s1.a s1.len s1.cap) ∧
  brc (((s1.len : Nat) : Int) == (0 : Int))
    (R (.int .i64 0) w1)
    (∃ (S1 : World → Prop),
      S1 (World.drew w1) ∧
      ∃ (s2 : SV),
      AtS Pr S1 (loadVar 61 (Addr.add a1 1)) (.slice s2.a s2.len s2.cap) ∧
      ∃ (s3 : SV),
      AtS Pr S1 (loadVar 61 (Addr.add a1 1)) (.slice s3.a s3.len s3.cap) ∧
      ((s3.len : Nat) : Int) ≠ 0 ∧
      ((0 : Int) ≤ (Int.tmod x1 ((s3.len : Nat) : Int)) ∧ (Int.tmod x1 ((s3.len : Nat) : Int)) < ((s2.len : Nat) : Int)) ∧
      optK s2.a fun a2 =>
        ∃ (n1 : Int),
        AtS Pr S1 (loadVar 3 (Addr.add a2 (Int.toNat (Int.tmod x1 ((s3.len : Nat) : Int)) * 1))) (.int .i64 n1) ∧
        R (.int .i64 (if x2 < (if 0 > n1 then 0 else n1) then x2 else (if 0 > n1 then 0 else n1))) (World.drew w1))

theorem call111 {x0_Names : Int} {x0_Bytes : SV} {x1 : Int} {x2 : Int} {w0 : World} {R : Ending → World → Prop} (h : ir111 x0_Names x0_Bytes x1 x2 w0 fun v w => R (.returned v) w) : Calls Pr 111 #[.agg #[(.int .i64 x0_Names), (.slice x0_Bytes.a x0_Bytes.len x0_Bytes.cap)], .int .i64 x1, .int .i64 x2] w0 R := by
  refine calls_of_vc (ann := []) (E := []) (args := [.agg #[(.int .i64 x0_Names), (.slice x0_Bytes.a x0_Bytes.len x0_Bytes.cap)], .int .i64 x1, .int .i64 x2]) follows Try.func111 rfl (by kernel_rfl) ?_
  apply by_eq h
  kernel_rfl

/-- (*creel/creelref04.Disk).down -/
def ir126 (x0 : Option Addr) (w0 : World) (R : Value → World → Prop) : Prop :=
  optK x0 fun a1 =>
    ∃ (b1 : Bool),
    At Pr w0 (loadVar 4 (Addr.add a1 5)) (.bool b1) ∧
    brc (!b1)
      (optK x0 fun a2 =>
          ∃ (b2 : Bool),
          At Pr w0 (loadVar 4 (Addr.add a2 6)) (.bool b2) ∧
          brc (b2)
            (optK x0 fun a3 =>
                ∃ (n1 : Int),
                At Pr w0 (loadVar 3 (Addr.add a3 7)) (.int .i64 n1) ∧
                optK x0 fun a4 =>
                  ∃ (w1 : World),
                  Sem.run Pr (Instr.storeAt 4 (.pointer (some (Addr.add a4 5))) (.bool (n1 == (0 : Int)))) w0 = .ok () w1 ∧
                  optK x0 fun a5 =>
                    ∃ (n2 : Int),
                    At Pr w1 (loadVar 3 (Addr.add a5 7)) (.int .i64 n2) ∧
                    optK x0 fun a6 =>
                      ∃ (w2 : World),
                      Sem.run Pr (Instr.storeAt 3 (.pointer (some (Addr.add a6 7))) (.int .i64 (IntKind.wrap .i64 (n2 - 1)))) w1 = .ok () w2 ∧
                      optK x0 fun a7 =>
                        ∃ (b3 : Bool),
                        At Pr w2 (loadVar 4 (Addr.add a7 5)) (.bool b3) ∧
                        R (.bool b3) w2)
            (optK x0 fun a8 =>
                ∃ (b4 : Bool),
                At Pr w0 (loadVar 4 (Addr.add a8 5)) (.bool b4) ∧
                R (.bool b4) w0))
      (optK x0 fun a9 =>
          ∃ (b5 : Bool),
          At Pr w0 (loadVar 4 (Addr.add a9 5)) (.bool b5) ∧
          R (.bool b5) w0)

theorem call126 {x0 : Option Addr} {w0 : World} {R : Ending → World → Prop} (h : ir126 x0 w0 fun v w => R (.returned v) w) : Calls Pr 126 #[.pointer x0] w0 R := by
  refine calls_of_vc (ann := []) (E := []) (args := [.pointer x0]) follows Try.func126 rfl (by kernel_rfl) ?_
  apply by_eq h
  kernel_rfl

/-- creel/creelref04.right -/
def ir141 (x0 : ByteArray) (w0 : World) (R : Value → World → Prop) : Prop :=
  brc (decide (((ByteArray.size x0 : Nat) : Int) ≥ (1 : Int)))
    (R (.bool (decide (((ByteArray.size x0 : Nat) : Int) ≤ (32 : Int)))) w0)
    (R (.bool false) w0)

theorem call141 {x0 : ByteArray} {w0 : World} {R : Ending → World → Prop} (h : ir141 x0 w0 fun v w => R (.returned v) w) : Calls Pr 141 #[.string x0] w0 R := by
  refine calls_of_vc (ann := []) (E := []) (args := [.string x0]) follows Try.func141 rfl (by kernel_rfl) ?_
  apply by_eq h
  kernel_rfl

/-- (*creel/creelref04.Disk).does -/
def ir142 (x0 : Option Addr) (x1_From : ByteArray) (x1_To : ByteArray) (x1_File : Int) (w0 : World) (R : Value → World → Prop) : Prop :=
  ∃ (a1 : Addr) (w1 : World),
  Sem.run Pr (Instr.box 166 (.agg #[(.string x1_From), (.string x1_To), (.int .i64 x1_File)])) w0 = .ok (.pointer (some a1)) w1 ∧
  ∃ (S1 : World → Prop),
  S1 (World.drew w1) ∧
  optK x0 fun a2 =>
    ∃ (s1 : SV),
    AtS Pr S1 (loadVar 156 (Addr.add a2 1)) (.slice s1.a s1.len s1.cap) ∧
    ∃ (str1 : ByteArray) (str2 : ByteArray) (n1 : Int),
    AtS Pr S1 (loadVar 166 a1) (.agg #[(.string str1), (.string str2), (.int .i64 n1)]) ∧
    Calls Pr 104 #[(.slice s1.a s1.len s1.cap), (.agg #[(.string str1), (.string str2), (.int .i64 n1)])] (World.drew w1) fun e1 w2 =>
      ∃ (s2 : SV),
      e1 = .returned (.slice s2.a s2.len s2.cap) ∧
      ∃ (S2 : World → Prop),
      S2 w2 ∧
      optK x0 fun a3 =>
        ∃ (w3 : World),
        Sem.run Pr (Instr.storeAt 156 (.pointer (some (Addr.add a3 1))) (.slice s2.a s2.len s2.cap)) w2 = .ok () w3 ∧
        ∃ (S3 : World → Prop),
        S3 w3 ∧
        ∃ (S4 : World → Prop),
        S4 (World.drew w3) ∧
        optK x0 fun a4 =>
          ∃ (s3 : SV),
          AtS Pr S4 (loadVar 157 (Addr.add a4 3)) (.slice s3.a s3.len s3.cap) ∧
          ∃ (str3 : ByteArray) (str4 : ByteArray) (n2 : Int),
          AtS Pr S4 (loadVar 166 a1) (.agg #[(.string str3), (.string str4), (.int .i64 n2)]) ∧
          (∃ (s4 : SV) (w4 : World),
          Sem.run Pr (Instr.buildSlice 157 0 #[]) (World.drew w3) = .ok (.slice s4.a s4.len s4.cap) w4 ∧
          ∃ (S5 : World → Prop),
          (∀ w, S5 w → S4 w) ∧
          S5 w4 ∧
          (∃ (s5 : SV) (w5 : World),
          Sem.run Pr (Builtin.append_ #[157, 157] 157 #[(.slice s4.a s4.len s4.cap), (.slice s3.a s3.len s3.cap)]) w4 = .ok (.slice s5.a s5.len s5.cap) w5 ∧
          ∃ (S6 : World → Prop),
          (∀ w, S6 w → S5 w) ∧
          S6 w5 ∧
          ∃ (s6 : SV) (w6 : World),
          Sem.run Pr (Instr.buildSlice 157 1 #[(0, (.agg #[(.string str3), (.string str4), (.int .i64 n2)]))]) w5 = .ok (.slice s6.a s6.len s6.cap) w6 ∧
          ∃ (S7 : World → Prop),
          (∀ w, S7 w → S6 w) ∧
          S7 w6 ∧
          ∃ (s7 : SV) (w7 : World),
          Sem.run Pr (Builtin.append_ #[157, 157] 157 #[(.slice s5.a s5.len s5.cap), (.slice s6.a s6.len s6.cap)]) w6 = .ok (.slice s7.a s7.len s7.cap) w7 ∧
          ∃ (S8 : World → Prop),
          (∀ w, S8 w → S7 w) ∧
          S8 w7 ∧
          optK x0 fun a5 =>
            ∃ (w8 : World),
            Sem.run Pr (Instr.storeAt 157 (.pointer (some (Addr.add a5 3))) (.slice s7.a s7.len s7.cap)) w7 = .ok () w8 ∧
            ∃ (S9 : World → Prop),
            S9 w8 ∧
            R (.tuple #[]) w8) ∧
          ∃ (s8 : SV) (w9 : World),
          Sem.run Pr (Instr.buildSlice 157 1 #[(0, (.agg #[(.string str3), (.string str4), (.int .i64 n2)]))]) w4 = .ok (.slice s8.a s8.len s8.cap) w9 ∧
          ∃ (S10 : World → Prop),
          (∀ w, S10 w → S5 w) ∧
          S10 w9 ∧
          ∃ (s9 : SV) (w10 : World),
          Sem.run Pr (Builtin.append_ #[157, 157] 157 #[(.slice s4.a s4.len s4.cap), (.slice s3.a s3.len s3.cap)]) w9 = .ok (.slice s9.a s9.len s9.cap) w10 ∧
          ∃ (S11 : World → Prop),
          (∀ w, S11 w → S10 w) ∧
          S11 w10 ∧
          ∃ (s10 : SV) (w11 : World),
          Sem.run Pr (Builtin.append_ #[157, 157] 157 #[(.slice s9.a s9.len s9.cap), (.slice s8.a s8.len s8.cap)]) w10 = .ok (.slice s10.a s10.len s10.cap) w11 ∧
          ∃ (S12 : World → Prop),
          (∀ w, S12 w → S11 w) ∧
          S12 w11 ∧
          optK x0 fun a6 =>
            ∃ (w12 : World),
            Sem.run Pr (Instr.storeAt 157 (.pointer (some (Addr.add a6 3))) (.slice s10.a s10.len s10.cap)) w11 = .ok () w12 ∧
            ∃ (S13 : World → Prop),
            S13 w12 ∧
            R (.tuple #[]) w12) ∧
          ∃ (s11 : SV) (w13 : World),
          Sem.run Pr (Instr.buildSlice 157 1 #[(0, (.agg #[(.string str3), (.string str4), (.int .i64 n2)]))]) (World.drew w3) = .ok (.slice s11.a s11.len s11.cap) w13 ∧
          ∃ (S14 : World → Prop),
          (∀ w, S14 w → S4 w) ∧
          S14 w13 ∧
          ∃ (s12 : SV) (w14 : World),
          Sem.run Pr (Instr.buildSlice 157 0 #[]) w13 = .ok (.slice s12.a s12.len s12.cap) w14 ∧
          ∃ (S15 : World → Prop),
          (∀ w, S15 w → S14 w) ∧
          S15 w14 ∧
          ∃ (s13 : SV) (w15 : World),
          Sem.run Pr (Builtin.append_ #[157, 157] 157 #[(.slice s12.a s12.len s12.cap), (.slice s3.a s3.len s3.cap)]) w14 = .ok (.slice s13.a s13.len s13.cap) w15 ∧
          ∃ (S16 : World → Prop),
          (∀ w, S16 w → S15 w) ∧
          S16 w15 ∧
          ∃ (s14 : SV) (w16 : World),
          Sem.run Pr (Builtin.append_ #[157, 157] 157 #[(.slice s13.a s13.len s13.cap), (.slice s11.a s11.len s11.cap)]) w15 = .ok (.slice s14.a s14.len s14.cap) w16 ∧
          ∃ (S17 : World → Prop),
          (∀ w, S17 w → S16 w) ∧
          S17 w16 ∧
          optK x0 fun a7 =>
            ∃ (w17 : World),
            Sem.run Pr (Instr.storeAt 157 (.pointer (some (Addr.add a7 3))) (.slice s14.a s14.len s14.cap)) w16 = .ok () w17 ∧
            ∃ (S18 : World → Prop),
            S18 w17 ∧
            R (.tuple #[]) w17

theorem call142 {x0 : Option Addr} {x1_From : ByteArray} {x1_To : ByteArray} {x1_File : Int} {w0 : World} {R : Ending → World → Prop} (h : ir142 x0 x1_From x1_To x1_File w0 fun v w => R (.returned v) w) : Calls Pr 142 #[.pointer x0, .agg #[(.string x1_From), (.string x1_To), (.int .i64 x1_File)]] w0 R := by
  refine calls_of_vc (ann := []) (E := []) (args := [.pointer x0, .agg #[(.string x1_From), (.string x1_To), (.int .i64 x1_File)]]) follows Try.func142 rfl (by kernel_rfl) ?_
  apply by_eq h
  kernel_rfl

/-- creel/creelref04.with -/
def ir143 (x0 : SV) (x1 : ByteArray) (x2 : Int) (w0 : World) (R : Value → World → Prop) : Prop :=
  Calls Pr 144 #[(.slice x0.a x0.len x0.cap), (.string x1)] w0 fun e1 w1 =>
    ∃ (s1 : SV),
    e1 = .returned (.slice s1.a s1.len s1.cap) ∧
    LoopT (σ := Int × Bool × SV × Unit) (fun σ1 w2 K1 =>
      ∀ _ : Env,
      brc (decide (σ1.1 < ((s1.len : Nat) : Int)))
        (brc (!σ1.2.1)
            (((0 : Int) ≤ σ1.1 ∧ σ1.1 < ((s1.len : Nat) : Int)) ∧
              optK s1.a fun a1 =>
                ∃ (str1 : ByteArray),
                At Pr w2 (loadVar 9 (Addr.add (Addr.add a1 (Int.toNat σ1.1 * 2)) 0)) (.string str1) ∧
                brc (!((Op.bytesLess (ByteArray.toList str1) (ByteArray.toList x1)) || (ByteArray.toList str1 == ByteArray.toList x1)))
                  (∃ (s2 : SV) (w3 : World),
                    Sem.run Pr (Instr.buildSlice 156 1 #[(0, (.agg #[(.string x1), (.int .i64 x2)]))]) w2 = .ok (.slice s2.a s2.len s2.cap) w3 ∧
                    ∃ (s3 : SV) (w4 : World),
                    Sem.run Pr (Builtin.append_ #[156, 156] 156 #[(.slice σ1.2.2.1.a σ1.2.2.1.len σ1.2.2.1.cap), (.slice s2.a s2.len s2.cap)]) w3 = .ok (.slice s3.a s3.len s3.cap) w4 ∧
                    ((0 : Int) ≤ σ1.1 ∧ σ1.1 < ((s1.len : Nat) : Int)) ∧
                    optK s1.a fun a2 =>
                      ∃ (str2 : ByteArray) (n1 : Int),
                      At Pr w4 (loadVar 163 (Addr.add a2 (Int.toNat σ1.1 * 2))) (.agg #[(.string str2), (.int .i64 n1)]) ∧
                      ∃ (s4 : SV) (w5 : World),
                      Sem.run Pr (Instr.buildSlice 156 1 #[(0, (.agg #[(.string str2), (.int .i64 n1)]))]) w4 = .ok (.slice s4.a s4.len s4.cap) w5 ∧
                      ∃ (s5 : SV) (w6 : World),
                      Sem.run Pr (Builtin.append_ #[156, 156] 156 #[(.slice s3.a s3.len s3.cap), (.slice s4.a s4.len s4.cap)]) w5 = .ok (.slice s5.a s5.len s5.cap) w6 ∧
                      K1 (IntKind.wrap .i64 (σ1.1 + 1), true, s5, ()) w6)
                  (((0 : Int) ≤ σ1.1 ∧ σ1.1 < ((s1.len : Nat) : Int)) ∧
                    optK s1.a fun a3 =>
                      ∃ (str3 : ByteArray) (n2 : Int),
                      At Pr w2 (loadVar 163 (Addr.add a3 (Int.toNat σ1.1 * 2))) (.agg #[(.string str3), (.int .i64 n2)]) ∧
                      ∃ (s6 : SV) (w7 : World),
                      Sem.run Pr (Instr.buildSlice 156 1 #[(0, (.agg #[(.string str3), (.int .i64 n2)]))]) w2 = .ok (.slice s6.a s6.len s6.cap) w7 ∧
                      ∃ (s7 : SV) (w8 : World),
                      Sem.run Pr (Builtin.append_ #[156, 156] 156 #[(.slice σ1.2.2.1.a σ1.2.2.1.len σ1.2.2.1.cap), (.slice s6.a s6.len s6.cap)]) w7 = .ok (.slice s7.a s7.len s7.cap) w8 ∧
                      K1 (IntKind.wrap .i64 (σ1.1 + 1), σ1.2.1, s7, ()) w8))
            (((0 : Int) ≤ σ1.1 ∧ σ1.1 < ((s1.len : Nat) : Int)) ∧
              optK s1.a fun a4 =>
                ∃ (str4 : ByteArray) (n3 : Int),
                At Pr w2 (loadVar 163 (Addr.add a4 (Int.toNat σ1.1 * 2))) (.agg #[(.string str4), (.int .i64 n3)]) ∧
                ∃ (s8 : SV) (w9 : World),
                Sem.run Pr (Instr.buildSlice 156 1 #[(0, (.agg #[(.string str4), (.int .i64 n3)]))]) w2 = .ok (.slice s8.a s8.len s8.cap) w9 ∧
                ∃ (s9 : SV) (w10 : World),
                Sem.run Pr (Builtin.append_ #[156, 156] 156 #[(.slice σ1.2.2.1.a σ1.2.2.1.len σ1.2.2.1.cap), (.slice s8.a s8.len s8.cap)]) w9 = .ok (.slice s9.a s9.len s9.cap) w10 ∧
                K1 (IntKind.wrap .i64 (σ1.1 + 1), σ1.2.1, s9, ()) w10))
        (brc (!σ1.2.1)
            (∃ (s10 : SV) (w11 : World),
              Sem.run Pr (Instr.buildSlice 156 1 #[(0, (.agg #[(.string x1), (.int .i64 x2)]))]) w2 = .ok (.slice s10.a s10.len s10.cap) w11 ∧
              ∃ (s11 : SV) (w12 : World),
              Sem.run Pr (Builtin.append_ #[156, 156] 156 #[(.slice σ1.2.2.1.a σ1.2.2.1.len σ1.2.2.1.cap), (.slice s10.a s10.len s10.cap)]) w11 = .ok (.slice s11.a s11.len s11.cap) w12 ∧
              R (.slice s11.a s11.len s11.cap) w12)
            (R (.slice σ1.2.2.1.a σ1.2.2.1.len σ1.2.2.1.cap) w2))) (0, false, SV.mk none 0 0, ()) w1

theorem call143 {x0 : SV} {x1 : ByteArray} {x2 : Int} {w0 : World} {R : Ending → World → Prop} (h : ir143 x0 x1 x2 w0 fun v w => R (.returned v) w) : Calls Pr 143 #[.slice x0.a x0.len x0.cap, .string x1, .int .i64 x2] w0 R := by
  refine calls_of_vc (ann := [(5, [(10, .int .i64), (9, .bool), (8, .slice)])]) (E := []) (args := [.slice x0.a x0.len x0.cap, .string x1, .int .i64 x2]) follows Try.func143 rfl (by kernel_rfl) ?_
  apply by_eq h
  kernel_rfl

/-- creel/creelref04.without -/
def ir144 (x0 : SV) (x1 : ByteArray) (w0 : World) (R : Value → World → Prop) : Prop :=
  LoopT (σ := Int × SV × Unit) (fun σ1 w1 K1 =>
    ∀ _ : Env,
    brc (decide (σ1.1 < ((x0.len : Nat) : Int)))
      (((0 : Int) ≤ σ1.1 ∧ σ1.1 < ((x0.len : Nat) : Int)) ∧
        optK x0.a fun a1 =>
          ∃ (str1 : ByteArray),
          At Pr w1 (loadVar 9 (Addr.add (Addr.add a1 (Int.toNat σ1.1 * 2)) 0)) (.string str1) ∧
          brc (!(ByteArray.toList str1 == ByteArray.toList x1))
            (((0 : Int) ≤ σ1.1 ∧ σ1.1 < ((x0.len : Nat) : Int)) ∧
              optK x0.a fun a2 =>
                ∃ (str2 : ByteArray) (n1 : Int),
                At Pr w1 (loadVar 163 (Addr.add a2 (Int.toNat σ1.1 * 2))) (.agg #[(.string str2), (.int .i64 n1)]) ∧
                ∃ (s1 : SV) (w2 : World),
                Sem.run Pr (Instr.buildSlice 156 1 #[(0, (.agg #[(.string str2), (.int .i64 n1)]))]) w1 = .ok (.slice s1.a s1.len s1.cap) w2 ∧
                ∃ (s2 : SV) (w3 : World),
                Sem.run Pr (Builtin.append_ #[156, 156] 156 #[(.slice σ1.2.1.a σ1.2.1.len σ1.2.1.cap), (.slice s1.a s1.len s1.cap)]) w2 = .ok (.slice s2.a s2.len s2.cap) w3 ∧
                K1 (IntKind.wrap .i64 (σ1.1 + 1), s2, ()) w3)
            (K1 (IntKind.wrap .i64 (σ1.1 + 1), σ1.2.1, ()) w1))
      (R (.slice σ1.2.1.a σ1.2.1.len σ1.2.1.cap) w1)) (0, SV.mk none 0 0, ()) w0

theorem call144 {x0 : SV} {x1 : ByteArray} {w0 : World} {R : Ending → World → Prop} (h : ir144 x0 x1 w0 fun v w => R (.returned v) w) : Calls Pr 144 #[.slice x0.a x0.len x0.cap, .string x1] w0 R := by
  refine calls_of_vc (ann := [(3, [(6, .int .i64), (5, .slice)])]) (E := []) (args := [.slice x0.a x0.len x0.cap, .string x1]) follows Try.func144 rfl (by kernel_rfl) ?_
  apply by_eq h
  kernel_rfl

end Go.Proofs.Ytonjaaljnjjjcaa

/- The program's disk: Doom, Grow. Conditions: as each lemma says. -/
set_option linter.unusedVariables false
set_option linter.unusedSimpArgs false
namespace Go.Proofs.Ytonjaaljnjjjcaa
open Go Go.RowKit

/-- What a disk's files, names and changes are alone. -/
theorem DRep.same {D : DS} {M M' : MDisk} {I : List Chunk} (h : DRep D M I) (h1 : M'.files = M.files) (h2 : M'.now = M.now) (h3 : M'.kept = M.kept) (h4 : M'.changes = M.changes) : DRep D M' I :=
  ⟨h1 ▸ h.files, h.bytes, h2 ▸ h.now, h3 ▸ h.kept, by rw [h4]; exact h.own, by rw [h4]; exact h.chOk⟩

/-- Doom. -/
theorem k49 {E w : World} {L I : List Chunk} {M : MDisk} {D : DS} {d : Nat} (hS : Sep E w (D.chunks M d ++ L)) (hD : DRep D M I) (n : Int) :
    Calls Pr 49 #[.pointer (some ⟨d, 0, none⟩), .int .i64 n] w fun e w' => e = .returned (.int .i64 (M.doom n).1) ∧ DRep D (M.doom n).2 I ∧ Sep E w' (D.chunks (M.doom n).2 d ++ L) := by
  refine call49 ?_
  unfold ir49
  refine brc_false rfl (brc_intro (fun h => ?_) (fun h => ?_))
  · have h : n < 0 := of_decide_eq_true h
    have hm : M.doom n = (1, M) := by unfold MDisk.doom; rw [if_pos h]
    rw [hm]
    exact ⟨rfl, hD, hS⟩
  · have h : ¬ n < 0 := of_decide_eq_false h
    have hm : M.doom n = (0, { M with doomed := true, left := n.toNat }) := by unfold MDisk.doom; rw [if_neg h]
    rw [hm]
    obtain ⟨w1, h1, hS1⟩ := Sep.store (o := 5) (n := 1) (v := .bool true) (t := 4) hS (by kernel_rfl) rfl (by simp) (by simp [Value.cells, Value.oneCell'])
    have hS1 : Sep E w1 (D.chunks { M with doomed := true } d ++ L) := hS1
    obtain ⟨w2, h2, hS2⟩ := Sep.store (o := 6) (n := 1) (v := .int .i64 n) (t := 3) hS1 (by kernel_rfl) rfl (by simp) (by simp [Value.cells, Value.oneCell'])
    refine ⟨w1, h1, w2, h2, rfl, hD.same rfl rfl rfl rfl, ?_⟩
    have e : n = ((n.toNat : Nat) : Int) := by omega
    have hc : dChunk { M with doomed := true, left := n.toNat } d D.mn D.mq D.cs = (d, .cells (spl [.map (some D.mn), .map (some D.mq), slV D.cs, .int .i64 (M.room : Int), .bool M.down, .bool true, .int .i64 (M.left : Int)] 6 (Value.int .i64 n).cells.toList).toArray 140 (0, 0)) := by
      show (d, Obj.cells #[.map (some D.mn), .map (some D.mq), slV D.cs, .int .i64 (M.room : Int), .bool M.down, .bool true, .int .i64 ((n.toNat : Nat) : Int)] 140 (0, 0)) = _
      rw [← e]
      rfl
    show Sep E w2 (dChunk { M with doomed := true, left := n.toNat } d D.mn D.mq D.cs :: _)
    rw [hc]
    exact hS2

/-- Grow. -/
theorem k95 {E w : World} {L I : List Chunk} {M : MDisk} {D : DS} {d : Nat} (hS : Sep E w (D.chunks M d ++ L)) (hD : DRep D M I) (n : Int) :
    Calls Pr 95 #[.pointer (some ⟨d, 0, none⟩), .int .i64 n] w fun e w' => e = .returned (.int .i64 (M.grow n).1) ∧ DRep D (M.grow n).2 I ∧ Sep E w' (D.chunks (M.grow n).2 d ++ L) := by
  refine call95 ?_
  unfold ir95
  refine brc_false rfl (brc_intro (fun h => ?_) (fun h => ?_))
  · have h : n < 0 := of_decide_eq_true h
    have hm : M.grow n = (1, M) := by unfold MDisk.grow; rw [if_pos h]
    rw [hm]
    exact ⟨rfl, hD, hS⟩
  · have h : ¬ n < 0 := of_decide_eq_false h
    have hm : M.grow n = (0, { M with room := n.toNat }) := by unfold MDisk.grow; rw [if_neg h]
    rw [hm]
    obtain ⟨w1, h1, hS1⟩ := Sep.store (o := 3) (n := 1) (v := .int .i64 n) (t := 3) hS (by kernel_rfl) rfl (by simp) (by simp [Value.cells, Value.oneCell'])
    refine ⟨w1, h1, rfl, hD.same rfl rfl rfl rfl, ?_⟩
    have e : n = ((n.toNat : Nat) : Int) := by omega
    have hc : dChunk { M with room := n.toNat } d D.mn D.mq D.cs = (d, .cells (spl [.map (some D.mn), .map (some D.mq), slV D.cs, .int .i64 (M.room : Int), .bool M.down, .bool M.doomed, .int .i64 (M.left : Int)] 3 (Value.int .i64 n).cells.toList).toArray 140 (0, 0)) := by
      show (d, Obj.cells #[.map (some D.mn), .map (some D.mq), slV D.cs, .int .i64 ((n.toNat : Nat) : Int), .bool M.down, .bool M.doomed, .int .i64 (M.left : Int)] 140 (0, 0)) = _
      rw [← e]
      rfl
    show Sep E w1 (dChunk { M with room := n.toNat } d D.mn D.mq D.cs :: _)
    rw [hc]
    exact hS1

end Go.Proofs.Ytonjaaljnjjjcaa

/- The library's sort of strings, laid at this program. Conditions: none. -/
set_option linter.unusedVariables false
set_option linter.unusedSimpArgs false
namespace Go.Proofs.Ytonjaaljnjjjcaa
open Go Go.Shelf

def laysSort_ren : Go.Shelf.Ren := ⟨fun | 190 => 146 | 125 => 160 | 258 => 159 | 128 => 177 | 129 => 178 | 302 => 168 | 303 => 169 | 304 => 170 | 305 => 171 | 306 => 172 | 307 => 173 | 308 => 174 | 309 => 175 | 310 => 176 | 333 => 182 | 329 => 183 | 330 => 184 | 334 => 185 | 335 => 186 | 336 => 187 | 344 => 188 | n => n, fun | 31 => 78 | 9 => 9 | 3 => 3 | 46 => 217 | 0 => 0 | 51 => 206 | 53 => 181 | 4 => 4 | 183 => 223 | 182 => 222 | 131 => 228 | 5 => 5 | 218 => 236 | 222 => 240 | 228 => 242 | 229 => 243 | n => n, fun | n => n⟩

theorem laysSort : Go.Proofs.Lays.n190 Try.prog laysSort_ren := {
  mixed := by kernel_rfl,
  f125 := Try.func160.trans (congrArg some (by kernel_rfl)),
  f128 := Try.func177.trans (congrArg some (by kernel_rfl)),
  f129 := Try.func178.trans (congrArg some (by kernel_rfl)),
  f190 := Try.func146.trans (congrArg some (by kernel_rfl)),
  f258 := Try.func159.trans (congrArg some (by kernel_rfl)),
  f302 := Try.func168.trans (congrArg some (by kernel_rfl)),
  f303 := Try.func169.trans (congrArg some (by kernel_rfl)),
  f304 := Try.func170.trans (congrArg some (by kernel_rfl)),
  f305 := Try.func171.trans (congrArg some (by kernel_rfl)),
  f306 := Try.func172.trans (congrArg some (by kernel_rfl)),
  f307 := Try.func173.trans (congrArg some (by kernel_rfl)),
  f308 := Try.func174.trans (congrArg some (by kernel_rfl)),
  f309 := Try.func175.trans (congrArg some (by kernel_rfl)),
  f310 := Try.func176.trans (congrArg some (by kernel_rfl)),
  f329 := Try.func183.trans (congrArg some (by kernel_rfl)),
  f330 := Try.func184.trans (congrArg some (by kernel_rfl)),
  f333 := Try.func182.trans (congrArg some (by kernel_rfl)),
  f334 := Try.func185.trans (congrArg some (by kernel_rfl)),
  f335 := Try.func186.trans (congrArg some (by kernel_rfl)),
  f336 := Try.func187.trans (congrArg some (by kernel_rfl)),
  f344 := Try.func188.trans (congrArg some (by kernel_rfl)),
  t0 := Try.underlying0,
  a0 := Try.isAgg0,
  z0 := Try.sizeOf0,
  v0 := Try.zeroValue0,
  t3 := Try.underlying3,
  a3 := Try.isAgg3,
  z3 := Try.sizeOf3,
  v3 := Try.zeroValue3,
  t4 := Try.underlying4,
  a4 := Try.isAgg4,
  z4 := Try.sizeOf4,
  v4 := Try.zeroValue4,
  t5 := Try.underlying5,
  a5 := Try.isAgg5,
  z5 := Try.sizeOf5,
  v5 := Try.zeroValue5,
  t9 := Try.underlying9,
  a9 := Try.isAgg9,
  z9 := Try.sizeOf9,
  v9 := Try.zeroValue9,
  t31 := Try.underlying78,
  a31 := Try.isAgg78,
  z31 := Try.sizeOf78,
  v31 := Try.zeroValue78,
  t46 := Try.underlying217,
  a46 := Try.isAgg217,
  z46 := Try.sizeOf217,
  v46 := Try.zeroValue217,
  t51 := Try.underlying206,
  a51 := Try.isAgg206,
  z51 := Try.sizeOf206,
  v51 := Try.zeroValue206,
  t53 := Try.underlying181,
  a53 := Try.isAgg181,
  z53 := Try.sizeOf181,
  v53 := Try.zeroValue181,
  t131 := Try.underlying228,
  a131 := Try.isAgg228,
  z131 := Try.sizeOf228,
  v131 := Try.zeroValue228,
  t182 := Try.underlying222,
  a182 := Try.isAgg222,
  z182 := Try.sizeOf222,
  v182 := Try.zeroValue222,
  t183 := Try.underlying223,
  a183 := Try.isAgg223,
  z183 := Try.sizeOf223,
  v183 := Try.zeroValue223,
  t218 := Try.underlying236,
  a218 := Try.isAgg236,
  z218 := Try.sizeOf236,
  v218 := Try.zeroValue236,
  t222 := Try.underlying240,
  a222 := Try.isAgg240,
  z222 := Try.sizeOf240,
  v222 := Try.zeroValue240,
  t228 := Try.underlying242,
  a228 := Try.isAgg242,
  z228 := Try.sizeOf242,
  v228 := Try.zeroValue242,
  t229 := Try.underlying243,
  a229 := Try.isAgg243,
  z229 := Try.sizeOf243,
  v229 := Try.zeroValue243 }

end Go.Proofs.Ytonjaaljnjjjcaa

/- Slices of encoded elements. Conditions: as each lemma says. -/
set_option linter.unusedVariables false
set_option linter.unusedSimpArgs false
namespace Go.Proofs.Ytonjaaljnjjjcaa
open Go Go.RowKit

theorem addA (a : Addr) (m n : Nat) : (a.add m).add n = a.add (m + n) := by
  unfold Addr.add
  by_cases hm : m = 0
  · subst hm; simp
  · by_cases hn : n = 0
    · subst hn; simp [hm]
    · have : ¬ m + n = 0 := by omega
      simp [hm, hn, Nat.add_assoc]

/-- How an element lies. -/
structure EncOk {α : Type} (enc : α → List Value) (sz : Nat) : Prop where
  len : ∀ x, (enc x).length = sz
  one : ∀ x, ∀ u ∈ enc x, u.oneCell' = true
  pos : 0 < sz

section
variable {α : Type} {enc : α → List Value} {sz : Nat}

theorem EncOk.flat (h : EncOk enc sz) : ∀ xs : List α, (xs.flatMap enc).length = xs.length * sz
  | [] => by simp
  | x :: xs => by
    rw [List.flatMap_cons, List.length_append, h.len, h.flat xs, List.length_cons, Nat.succ_mul]
    omega
theorem EncOk.ones (h : EncOk enc sz) (xs : List α) : ∀ u ∈ xs.flatMap enc, u.oneCell' = true := fun u hu => by
  obtain ⟨x, _, hu⟩ := List.mem_flatMap.1 hu
  exact h.one x u hu
theorem EncOk.part (h : EncOk enc sz) : ∀ (xs : List α) (i : Nat) (x : α), xs[i]? = some x → ((xs.flatMap enc).drop (i * sz)).take sz = enc x
  | [], i, x, hx => by simp at hx
  | y :: xs, 0, x, hx => by
    simp at hx
    subst hx
    rw [List.flatMap_cons, Nat.zero_mul, List.drop_zero, List.take_append_of_le_length (by rw [h.len]; exact Nat.le_refl _), List.take_of_length_le (by rw [h.len]; exact Nat.le_refl _)]
  | y :: xs, i + 1, x, hx => by
    have ih := h.part xs i x (by simpa using hx)
    rw [List.flatMap_cons, Nat.succ_mul, Nat.add_comm, ← List.drop_drop]
    have e : (enc y ++ xs.flatMap enc).drop sz = xs.flatMap enc := by
      rw [List.drop_append_of_le_length (by rw [h.len]; exact Nat.le_refl _), List.drop_of_length_le (by rw [h.len]; exact Nat.le_refl _)]
      rfl
    rw [e]
    exact ih
theorem EncOk.cell (h : EncOk enc sz) {xs : List α} {i j : Nat} {x : α} {v : Value} (hx : xs[i]? = some x) (hj : (enc x)[j]? = some v) : (xs.flatMap enc)[i * sz + j]? = some v := by
  have hp := h.part xs i x hx
  have hjl := (List.getElem?_eq_some_iff.1 hj).1
  rw [h.len] at hjl
  rw [← hp, List.getElem?_take, if_pos hjl, List.getElem?_drop] at hj
  exact hj

theorem RdG.size (h : EncOk enc sz) {I : List Chunk} {s : SV} {xs : List α} (hr : RdS I sz s (xs.flatMap enc)) : s.len = xs.length := by
  have := hr.len
  rw [h.flat] at this
  exact (Nat.eq_of_mul_eq_mul_right h.pos this).symm

/-- An element, read in whatever world: whole, and by its parts. -/
theorem RdG.at_ (h : EncOk enc sz) {I : List Chunk} {s : SV} {xs : List α} (hr : RdS I sz s (xs.flatMap enc)) {i : Nat} {x : α} (hx : xs[i]? = some x) :
    ∃ a, s.a = some a ∧ (∀ {E w : World} {L : List Chunk} {t : TypeId}, structT Pr t = true → sizeOf? Pr t = some sz → Sep E w L → (∀ c ∈ I, c ∈ L) → At Pr w (loadVar t (a.add (i * sz))) (.agg (enc x).toArray)) ∧
      (∀ {j : Nat} {v : Value} {E w : World} {L : List Chunk} {t : TypeId}, (enc x)[j]? = some v → oneT Pr t = true → Sep E w L → (∀ c ∈ I, c ∈ L) → At Pr w (loadVar t ((a.add (i * sz)).add j)) v) := by
  have hi := (List.getElem?_eq_some_iff.1 hx).1
  have hsz := RdG.size h hr
  cases ha : s.a with
  | none => have := hr.nil ha; omega
  | some a =>
    rcases hr.at_ _ ha with h0 | ⟨hsp, cs, T, fr, hc, hv⟩
    · omega
    · obtain ⟨b, o, sp⟩ := a
      simp only at hsp
      subst hsp
      refine ⟨_, rfl, fun ht hn hS hI => ?_, fun {j v E w L t} hj ht hS hI => ?_⟩
      · rw [addr_add]
        have hcs : o + xs.length * sz ≤ cs.size := by
          refine Classical.byContradiction fun hn => ?_
          have hpos : 0 < xs.length * sz := Nat.mul_pos (by omega) h.pos
          have hl := h.flat xs
          have hlt : xs.length * sz - 1 < (xs.flatMap enc).length := by omega
          have h3 := (Array.getElem?_eq_some_iff.1 (hv (xs.length * sz - 1) (xs.flatMap enc)[xs.length * sz - 1] (by simp [hlt]))).1
          simp only at h3
          omega
        have hbound : (i + 1) * sz ≤ xs.length * sz := Nat.mul_le_mul_right _ (by omega)
        rw [Nat.succ_mul] at hbound
        refine hS.loadS (hI _ hc) ht hn ?_ (by omega)
        rw [← h.part xs i x hx]
        apply List.ext_getElem?
        intro j
        rw [List.getElem?_take, List.getElem?_take]
        split
        · rename_i hj
          rw [List.getElem?_drop, List.getElem?_drop]
          have hl := h.flat xs
          have hlt : i * sz + j < (xs.flatMap enc).length := by omega
          have := hv (i * sz + j) (xs.flatMap enc)[i * sz + j] (by simp [hlt])
          simp only at this
          rw [Array.getElem?_toList, Nat.add_assoc, this, List.getElem?_eq_getElem hlt]
        · rfl
      · rw [addr_add, addr_add]
        have := hv _ _ (h.cell hx hj)
        simp only at this
        rw [← Nat.add_assoc] at this
        exact hS.load (hI _ hc) this ht

/-- One more behind an owned slice. -/
theorem Sep.pushG (h : EncOk enc sz) {E w : World} {C L : List Chunk} {t T bytes : Nat} {z : Value} (ti : TI t T sz bytes z) {s : SV} {xs : List α} {x : α} {v : Value} (hS : Sep E w (C ++ L)) (ho : Own T sz s (xs.flatMap enc) C)
    (hv : bsV Pr t 1 [(0, v)] = some (enc x)) (hb : (xs.length + 1) * bytes ≤ 140737488355328) (hm : xs.length + 1 ≤ maxLen) {ty : Nat} :
    ∃ (s2 : SV) (w2 : World), Sem.run Pr (Instr.buildSlice t 1 #[(0, v)]) w = .ok (.slice s2.a s2.len s2.cap) w2 ∧
      ∃ (s3 : SV) (w3 : World) (C' G : List Chunk), Sem.run Pr (Builtin.append_ #[t, t] ty #[.slice s.a s.len s.cap, .slice s2.a s2.len s2.cap]) w2 = .ok (.slice s3.a s3.len s3.cap) w3 ∧ Own T sz s3 ((xs ++ [x]).flatMap enc) C' ∧ Sep E w3 (C' ++ (G ++ L)) := by
  obtain ⟨g, w2, h2, hS2⟩ := hS.buildSlice (t := t) (T := T) (len := 1) (parts := [(0, v)]) ti.und hv
  have hS2' : Sep E w2 (C ++ ((g, .cells (enc x).toArray T (0, 0)) :: L)) := hS2.weak (by intro f; simp only [ms_append, ms_cons, ms_nil]; omega)
  have hl := RdG.size h ho.rds
  have hsrc : RdS [(g, Obj.cells (enc x).toArray T (0, 0))] sz ⟨some ⟨g, 0, none⟩, 1, 1⟩ (enc x) := (Own.new (T := T) (g := g) (n := 1) (by rw [h.len, Nat.one_mul]) (by decide)).rds
  obtain ⟨s3, w3, C', h3, ho3, _, hS3⟩ := Sep.append (ty := ty) ti hS2' ho (hsrc.src hS2' fun c hc => by simp at hc; subst hc; simp) (h.one x) (by show (s.len + 1) * bytes ≤ _; rw [hl]; exact hb) (by show s.len + 1 ≤ maxLen; rw [hl]; exact hm)
  exact ⟨⟨some ⟨g, 0, none⟩, 1, 1⟩, w2, h2, s3, w3, C', [_], h3, by rw [List.flatMap_append]; simpa using ho3, hS3⟩

/-- A literal of one. -/
theorem Sep.litG1 (h : EncOk enc sz) {E w : World} {L : List Chunk} {t T bytes : Nat} {z : Value} (ti : TI t T sz bytes z) {x : α} {v : Value} (hS : Sep E w L) (hv : bsV Pr t 1 [(0, v)] = some (enc x)) :
    ∃ (s : SV) (w2 : World) (C : List Chunk), Sem.run Pr (Instr.buildSlice t 1 #[(0, v)]) w = .ok (.slice s.a s.len s.cap) w2 ∧ Own T sz s ([x].flatMap enc) C ∧ Sep E w2 (C ++ L) := by
  obtain ⟨g, w2, h2, hS2⟩ := hS.buildSlice (t := t) (T := T) (len := 1) (parts := [(0, v)]) ti.und hv
  refine ⟨⟨some ⟨g, 0, none⟩, 1, 1⟩, w2, [_], h2, ?_, hS2⟩
  have : [x].flatMap enc = enc x := by simp
  rw [this]
  exact Own.new (by rw [h.len, Nat.one_mul]) (by decide)
/-- A literal of none. -/
theorem Sep.litG0 {E w : World} {L : List Chunk} {t T bytes : Nat} {z : Value} (ti : TI t T sz bytes z) (hS : Sep E w L) (hv : bsV Pr t 0 [] = some []) :
    ∃ (s : SV) (w2 : World) (C : List Chunk), Sem.run Pr (Instr.buildSlice t 0 #[]) w = .ok (.slice s.a s.len s.cap) w2 ∧ Own T sz s (([] : List α).flatMap enc) C ∧ Sep E w2 (C ++ L) := by
  obtain ⟨g, w2, h2, hS2⟩ := hS.buildSlice (t := t) (T := T) (len := 0) (parts := []) ti.und hv
  exact ⟨⟨some ⟨g, 0, none⟩, 0, 0⟩, w2, [_], h2, Own.new (by simp) (Nat.zero_le _), hS2⟩
/-- 'append(s, x...)'. -/
theorem Sep.appG (h : EncOk enc sz) {E w : World} {C L : List Chunk} {t T bytes : Nat} {z : Value} (ti : TI t T sz bytes z) {s x : SV} {xs ys : List α} (hS : Sep E w (C ++ L)) (ho : Own T sz s (xs.flatMap enc) C) (hx : RdS (C ++ L) sz x (ys.flatMap enc))
    (hb : (xs.length + ys.length) * bytes ≤ 140737488355328) (hm : xs.length + ys.length ≤ maxLen) {ty : Nat} :
    ∃ (s3 : SV) (w3 : World) (C' : List Chunk), Sem.run Pr (Builtin.append_ #[t, t] ty #[.slice s.a s.len s.cap, .slice x.a x.len x.cap]) w = .ok (.slice s3.a s3.len s3.cap) w3 ∧ Own T sz s3 ((xs ++ ys).flatMap enc) C' ∧ Sep E w3 (C' ++ L) := by
  have h1 := RdG.size h ho.rds
  have h2 := RdG.size h hx
  obtain ⟨s3, w3, C', h3, ho3, _, hS3⟩ := Sep.append (ty := ty) ti hS ho (hx.src hS fun c hc => hc) (h.ones ys) (by rw [h1, h2]; exact hb) (by rw [h1, h2]; exact hm)
  exact ⟨s3, w3, C', h3, by rw [List.flatMap_append]; exact ho3, hS3⟩
end

end Go.Proofs.Ytonjaaljnjjjcaa

/- The program's disk: names, told in order. Conditions: as each lemma says. -/
set_option linter.unusedVariables false
set_option linter.unusedSimpArgs false
namespace Go.Proofs.Ytonjaaljnjjjcaa
open Go Go.RowKit

theorem encStr_strOf (l : List UInt8) : encStr l = .string (strOf l) := rfl
theorem string_enc (k : ByteArray) : Value.string k = encStr k.data.toList := by
  cases k
  rfl

/-! ### What the sort leaves -/
theorem Sep.growS {E w : World} {L : List Chunk} (hS : Sep E w L) (os : Array Obj) : Sep E (Go.Sort.grow w os) L :=
  ⟨hS.os, hS.tape, hS.output, hS.uniq, fun c hc => by
    have h1 := hS.at_ c hc
    have h2 := hS.lt hc
    show (w.heap ++ os)[c.1]? = some c.2
    rw [Array.getElem?_append_left h2]
    exact h1⟩
theorem Sep.aheadS {E w : World} {L : List Chunk} (hS : Sep E w L) (n : Nat) : Sep E (Go.Sort.ahead w n) L := ⟨hS.os, hS.tape, hS.output, hS.uniq, hS.at_⟩
theorem Sep.rowS {E w : World} {L : List Chunk} {g : Nat} {cs : Array Value} {T : TypeId} {fr : Nat × Nat} (hS : Sep E w ((g, .cells cs T fr) :: L)) (f : Array Value → Array Value) : Sep E (Go.Sort.mapBlock w g f) ((g, .cells (f cs) T fr) :: L) := by
  have hb := hS.at_ _ List.mem_cons_self
  refine hS.turn rfl rfl rfl ?_ (fun i hi => ?_)
  · show (w.heap.modify g (Go.Sort.onCells f))[g]? = _
    simp only at hb
    rw [Array.getElem?_modify, if_pos rfl, hb]
    rfl
  · show (w.heap.modify g (Go.Sort.onCells f))[i]? = _
    rw [Array.getElem?_modify, if_neg (Ne.symm hi)]

/-- slices.Sort of strings. -/
theorem k146 {E w : World} {C L : List Chunk} {s : SV} {zs : List (List UInt8)} (hS : Sep E w (C ++ L)) (ho : Own 9 1 s (zs.map encStr) C) (hn : zs.length < 4611686018427387904) :
    Calls Pr 146 #[.slice s.a s.len s.cap] w fun e w' => e = .returned (.tuple #[]) ∧ ∃ C', Own 9 1 s ((zs.mergeSort fun x y => decide (x ≤ y)).map encStr) C' ∧ Sep E w' (C' ++ L) := by
  have hlen := ho.rds.len1
  rw [List.length_map] at hlen
  have hml : (zs.mergeSort fun x y => decide (x ≤ y)).length = zs.length := List.length_mergeSort zs
  rcases ho.form with ⟨h1, h2, h3, rfl⟩ | ⟨g, cur, h1, rfl, h2, h3, h4, h5⟩
  · have hz : zs = [] := List.eq_nil_of_length_eq_zero (by omega)
    subst hz
    rw [h2]
    refine Calls.mono (calls_of_every_depth fun D => AnyS.slices_Sort_string_none_alone laysSort D s.a s.cap w) ?_
    rintro e w' ⟨rfl, rfl⟩
    exact ⟨rfl, [], by simpa using ho, hS⟩
  · have hb : w.heap[g]? = some (.cells cur 9 (0, 0)) := hS.at_ (g, .cells cur 9 (0, 0)) (by simp)
    have hcur : ∀ j, j < zs.length → cur[j]? = some (encStr zs[j]!) := fun j hj => by
      have : (cur.toList.take (s.len * 1))[j]? = some (encStr zs[j]!) := by
        rw [h5, List.getElem?_map, List.getElem?_eq_getElem hj]
        simp [hj]
      rw [List.getElem?_take, if_pos (by omega)] at this
      simpa using this
    have hH : Go.Sort.Holds encStr w g 0 zs.toArray := fun j hj => by
      have hj : j < zs.length := by simpa using hj
      refine ⟨?_, ?_⟩
      · rw [Nat.zero_add]
        unfold World.cell?
        simp only [hb]
        have := hcur j hj
        simpa using this
      · unfold World.frozen?
        simp only [hb]
        simp
    rw [h1, hlen]
    refine Calls.mono (calls_of_every_depth fun D => AnyS.slices_Sort_string_alone laysSort D g 0 s.cap zs w hH (Array.getElem?_eq_some_iff.1 hb).1 hn) ?_
    rintro e w' ⟨rfl, n, os, rfl⟩
    generalize hm : (zs.mergeSort fun x y => decide (x ≤ y)) = ms' at hml
    refine ⟨rfl, [(g, .cells (Go.Sort.putCells encStr 0 ms'.toArray cur) 9 (0, 0))], ⟨by rw [List.length_map, hml, hlen, Nat.mul_one], .inr ⟨g, _, h1, rfl, h2, h3, ?_, ?_⟩⟩, ?_⟩
    · simp only [Go.Sort.putCells, Array.size_mapIdx]
      exact h4
    · apply List.ext_getElem?
      intro j
      rw [List.getElem?_take, List.getElem?_map]
      by_cases hj : j < zs.length
      · rw [if_pos (by omega), List.getElem?_eq_getElem (by omega : j < ms'.length)]
        have hcj := hcur j hj
        have hjc := (Array.getElem?_eq_some_iff.1 hcj).1
        rw [Array.getElem?_toList]
        simp only [Go.Sort.putCells, Array.getElem?_mapIdx]
        rw [Array.getElem?_eq_getElem hjc]
        have hj2 : j < ms'.toArray.size := by simpa [hml] using hj
        simp [hml, hj]
      · rw [if_neg (by omega), List.getElem?_eq_none (by omega : ms'.length ≤ j)]
        rfl
    · have := (hS.aheadS n).rowS (Go.Sort.putCells encStr 0 ms'.toArray)
      exact this.growS os

theorem nodup_of_map {α β : Type} (f : α → β) {l : List α} (h : (l.map f).Nodup) : l.Nodup := by
  rw [List.nodup_iff_pairwise_ne, List.pairwise_map] at h
  rw [List.nodup_iff_pairwise_ne]
  exact List.Pairwise.imp (fun hab e => hab (by rw [e])) h
theorem inj_of_nodup {α β : Type} {f : α → β} : ∀ {l : List α}, (l.map f).Nodup → ∀ {a b : α}, a ∈ l → b ∈ l → f a = f b → a = b
  | [], _, a, b, ha, _, _ => by cases ha
  | x :: l, h, a, b, ha, hb, e => by
    rw [List.map_cons, List.nodup_cons] at h
    rcases List.mem_cons.1 ha with ha1 | ha1
    · rcases List.mem_cons.1 hb with hb1 | hb1
      · rw [ha1, hb1]
      · exact absurd (List.mem_map.2 ⟨b, hb1, by rw [← e, ha1]⟩) h.1
    · rcases List.mem_cons.1 hb with hb1 | hb1
      · exact absurd (List.mem_map.2 ⟨a, ha1, by rw [e, hb1]⟩) h.1
      · exact inj_of_nodup h.2 ha1 hb1 e

/-! ### Names in order -/
theorem lt_bytes (x y : ByteArray) : nlt x y ↔ x.toList < y.toList := by
  unfold nlt
  rw [bytesLess_eq, decide_eq_true_iff]

theorem sort_names {nm : Names} (h : SortedN nm) {ks : List ByteArray} (hp : ks.Perm (nm.map (·.1))) : ((ks.map fun k => k.data.toList).mergeSort fun x y => decide (x ≤ y)) = nm.map fun x => x.1.data.toList := by
  have h1 : ((ks.map fun k => k.data.toList).mergeSort fun x y => decide (x ≤ y)).Perm (nm.map fun x => x.1.data.toList) := by
    refine (List.mergeSort_perm _ _).trans ?_
    have := hp.map fun k : ByteArray => k.data.toList
    rwa [List.map_map] at this
  have h2 : ((ks.map fun k => k.data.toList).mergeSort fun x y => decide (x ≤ y)).Pairwise fun x y => decide (x ≤ y) = true := by
    refine List.pairwise_mergeSort (fun a b c h1 h2 => ?_) (fun a b => ?_) _
    · rw [decide_eq_true_iff] at *
      exact List.le_trans h1 h2
    · have := List.le_total a b
      simpa using this
  have h3 : (nm.map fun x => x.1.data.toList).Pairwise fun x y => decide (x ≤ y) = true := by
    rw [List.pairwise_map]
    refine List.Pairwise.imp (fun {a b} hab => ?_) h
    rw [decide_eq_true_iff]
    rw [lt_bytes, ByteArray.toList_eq, ByteArray.toList_eq] at hab
    exact List.le_of_lt hab
  exact List.Perm.eq_of_pairwise (fun a b _ _ h1 h2 => List.le_antisymm (of_decide_eq_true h1) (of_decide_eq_true h2)) h2 h3 h1

theorem NameRep.keys {bs : List Nat} {nm : Names} {l : List (Ent ByteArray)} {c : Nat} (h : NameRep bs nm l c) : (l.map (·.k)).Perm (nm.map (·.1)) := by
  have hnd : (nm.map (·.1)).Nodup := by
    rw [List.nodup_iff_pairwise_ne, List.pairwise_map]
    exact List.Pairwise.imp (fun hab => nlt_ne hab) h.sorted
  refine (List.perm_ext_iff_of_nodup h.wf.keys hnd).2 fun k => ?_
  have hg := h.get k
  constructor
  · intro hk
    obtain ⟨e, he, rfl⟩ := List.mem_map.1 hk
    have : getE e.k l ≠ none := fun h0 => getE_none.1 h0 e he rfl
    rw [hg] at this
    cases hf : findN e.k nm with
    | none => rw [hf] at this; simp at this
    | some i => exact List.mem_map.2 ⟨_, mem_of_findN hf, rfl⟩
  · intro hk
    obtain ⟨x, hx, rfl⟩ := List.mem_map.1 hk
    rw [findN_mem h.sorted hx] at hg
    refine Classical.byContradiction fun hn => ?_
    have : getE x.1 l = none := getE_none.2 fun e he hek => hn (List.mem_map.2 ⟨e, he, hek⟩)
    rw [this] at hg
    simp at hg

theorem ti78 : TI 78 9 1 16 (.string ByteArray.empty) := ⟨by kernel_rfl, by kernel_rfl, rfl, by decide⟩
def encK (k : ByteArray) : List Value := [.string k]
theorem encK_ok : EncOk encK 1 := ⟨fun _ => rfl, fun x u hu => by simp [encK] at hu; subst hu; rfl, by decide⟩
theorem encK_map (ks : List ByteArray) : ks.flatMap encK = ks.map Value.string := by
  induction ks with
  | nil => rfl
  | cons k ks ih => simp [encK, ih]

/-- names.sorted. -/
theorem k110 {E w : World} {L : List Chunk} {m c : Nat} {l : List (Ent ByteArray)} {bs : List Nat} {nm : Names} (hS : Sep E w L) (hm : strM m l c ∈ L) (hr : NameRep bs nm l c) (hn : nm.length ≤ 1000000000000) :
    Calls Pr 110 #[.map (some m)] w fun e w' => ∃ (s : SV) (C G : List Chunk), e = .returned (.slice s.a s.len s.cap) ∧ Own 9 1 s ((nm.map (·.1)).flatMap encK) C ∧ Sep E w' (C ++ (G ++ L)) := by
  refine call110 ?_
  unfold ir110
  obtain ⟨it, w1, h1, hS1⟩ := hS.range hm u137
  refine ⟨_, w1, h1, ?_⟩
  have hll : l.length = nm.length := by
    have := hr.keys.length_eq
    simpa using this
  refine ⟨fun n σ w2 => ∃ (ks : List (Ent ByteArray)) (C G : List Chunk), ks.Sublist ks ∧ n = l.length - ks.length ∧ (∀ e ∈ ks, e ∈ l) ∧ (ks.map (·.born)).Nodup ∧ ks.length ≤ l.length ∧ Own 9 1 σ.1 ((ks.map (·.k)).flatMap encK) C ∧ Sep E w2 (iterC it m c (ks.map (·.born)) :: (C ++ (G ++ L))), l.length,
    ⟨[], [], [], List.Sublist.refl _, rfl, (fun e he => by cases he), List.nodup_nil, Nat.zero_le _, Own.nil _ _, hS1⟩, ?_⟩
  rintro n ⟨s, u⟩ w2 ⟨ks, C, G, _, rfl, hks, hnd, hkl, ho, hS2⟩ _
  dsimp only at ho ⊢
  refine hS2.next (l := l) (kv := Value.string) (by simp [hm]) hr.wf.born (fun hall => ?_) (fun e he hns w3 hS3 => ?_)
  · -- all have come
    have hp : (ks.map (·.k)).Perm (l.map (·.k)) := by
      have hpb : (ks.map (·.born)).Perm (l.map (·.born)) := by
        refine (List.perm_ext_iff_of_nodup hnd hr.wf.borns).2 fun b => ⟨fun hb => ?_, fun hb => ?_⟩
        · obtain ⟨e, he, rfl⟩ := List.mem_map.1 hb
          exact List.mem_map.2 ⟨e, hks e he, rfl⟩
        · obtain ⟨e, he, rfl⟩ := List.mem_map.1 hb
          exact hall e he
      have hpe : ks.Perm l := by
        have hlk : ks.Nodup := nodup_of_map _ hnd
        have hll : l.Nodup := nodup_of_map _ hr.wf.borns
        refine (List.perm_ext_iff_of_nodup hlk hll).2 fun e => ⟨hks e, fun he => ?_⟩
        have hb : e.born ∈ ks.map (·.born) := hall e he
        obtain ⟨e', he', hbe⟩ := List.mem_map.1 hb
        have : e' = e := inj_of_nodup hr.wf.borns (hks e' he') he hbe
        exact this ▸ he'
      exact hpe.map _
    have hsn := sort_names hr.sorted (hp.trans hr.keys)
    have hS2' : Sep E w2 (C ++ (iterC it m c (ks.map (·.born)) :: (G ++ L))) := hS2.weak (by intro f; simp only [ms_append, ms_cons, ms_nil]; omega)
    have ho' : Own 9 1 s (((ks.map (·.k)).map fun k => k.data.toList).map encStr) C := by
      rw [encK_map] at ho
      have : ((ks.map (·.k)).map fun k => k.data.toList).map encStr = (ks.map (·.k)).map Value.string := by
        rw [List.map_map]
        apply List.map_congr_left
        intro k _
        exact (string_enc k).symm
      rw [this]
      exact ho
    refine (k146 hS2' ho' (by simp; omega)).mono ?_
    rintro _ w4 ⟨rfl, C', ho4, hS4⟩
    refine ⟨rfl, s, C', iterC it m c (ks.map (·.born)) :: G, rfl, ?_, hS4.weak (by intro f; simp only [ms_append, ms_cons, ms_nil]; omega)⟩
    rw [hsn] at ho4
    rw [encK_map]
    have : (nm.map fun x => x.1.data.toList).map encStr = (nm.map (·.1)).map Value.string := by
      rw [List.map_map, List.map_map]
      apply List.map_congr_left
      intro x _
      exact (string_enc x.1).symm
    rw [this] at ho4
    exact ho4
  · -- one comes
    have hlt : ks.length < l.length := by
      have h1 : ((ks ++ [e]).map (·.born)).Nodup := by
        rw [List.map_append, List.nodup_append]
        refine ⟨hnd, by simp, fun a ha b hb => ?_⟩
        simp at hb
        subst hb
        exact fun h => hns (h ▸ ha)
      have hsub : ∀ b ∈ (ks ++ [e]).map (·.born), b ∈ l.map (·.born) := fun b hb => by
        obtain ⟨x, hx, rfl⟩ := List.mem_map.1 hb
        refine List.mem_map.2 ⟨x, ?_, rfl⟩
        rcases List.mem_append.1 hx with hx | hx
        · exact hks x hx
        · rw [List.mem_singleton] at hx
          subst hx
          exact he
      have := h1.length_le_of_subset hsub
      simp at this
      omega
    obtain ⟨i, _, hi, hpv⟩ := hr.ent he
    refine ⟨e.k, filePtr bs i, ?_, ?_⟩
    · have := hS3.entry (kv := Value.string) (e := e) (seen := ks.map (·.born)) (l := l) (m := m) (c := c) (it := it) (by simp) (by simp [hm]) he hr.wf.borns
      rw [hpv] at this
      exact this
    have hS3' : Sep E w3 (C ++ (iterC it m c (ks.map (·.born) ++ [e.born]) :: (G ++ L))) := hS3.weak (by intro f; simp only [ms_append, ms_cons, ms_nil]; omega)
    obtain ⟨s2, w4, h4, s3, w5, C', G', h5, ho5, hS5⟩ := hS3'.pushG encK_ok ti78 (x := e.k) (v := .string e.k) (ty := 78) ho (by kernel_rfl) (by simp; omega) (by simp; unfold maxLen; omega)
    refine ⟨s2, w4, h4, s3, w5, h5, l.length - (ks ++ [e]).length, by simp; omega, ks ++ [e], C', G' ++ G, List.Sublist.refl _, rfl, fun x hx => ?_, ?_, by simp; omega, ?_, ?_⟩
    · rcases List.mem_append.1 hx with hx | hx
      · exact hks x hx
      · rw [List.mem_singleton] at hx
        subst hx
        exact he
    · rw [List.map_append, List.nodup_append]
      refine ⟨hnd, by simp, fun a ha b hb => ?_⟩
      simp at hb
      subst hb
      exact fun h => hns (h ▸ ha)
    · rw [List.map_append]
      exact ho5
    · rw [List.map_append]
      show Sep E w5 (iterC it m c (ks.map (·.born) ++ [e.born]) :: (C' ++ ((G' ++ G) ++ L)))
      exact hS5.weak (by intro f; simp only [ms_append, ms_cons, ms_nil]; omega)

end Go.Proofs.Ytonjaaljnjjjcaa

/- Contracts: sums, fixed numbers, frames of the reference. Conditions: as each lemma says. -/
set_option linter.unusedVariables false
set_option linter.unusedSimpArgs false
namespace Go.Proofs.Ytonjaaljnjjjcaa
open Go Go.RowKit

theorem tm_nat (a b : Nat) : Int.tmod ((a : Nat) : Int) ((b : Nat) : Int) = ((a % b : Nat) : Int) := (Int.ofNat_tmod a b).symm
theorem td_nat (a b : Nat) : Int.tdiv ((a : Nat) : Int) ((b : Nat) : Int) = ((a / b : Nat) : Int) := (Int.ofNat_tdiv a b).symm
theorem tm2 (a : Nat) : Int.tmod ((a : Nat) : Int) 2 = ((a % 2 : Nat) : Int) := tm_nat a 2
theorem td2 (a : Nat) : Int.tdiv ((a : Nat) : Int) 2 = ((a / 2 : Nat) : Int) := td_nat a 2
theorem tm256 (a : Nat) : Int.tmod ((a : Nat) : Int) 256 = ((a % 256 : Nat) : Int) := tm_nat a 256
theorem td256 (a : Nat) : Int.tdiv ((a : Nat) : Int) 256 = ((a / 256 : Nat) : Int) := td_nat a 256
theorem td65536 (a : Nat) : Int.tdiv ((a : Nat) : Int) 65536 = ((a / 65536 : Nat) : Int) := td_nat a 65536
theorem td16777216 (a : Nat) : Int.tdiv ((a : Nat) : Int) 16777216 = ((a / 16777216 : Nat) : Int) := td_nat a 16777216

theorem k179 {w : World} {c : Nat} (hc : c < 4294967296) : Calls Pr 179 #[.int .u32 ((c : Nat) : Int)] w fun e w' => e = .returned (.int .u32 ((crcEntry c : Nat) : Int)) ∧ w' = w := by
  refine call179 ?_
  unfold ir179
  refine ⟨fun n σ w4 => ∃ i : Nat, i ≤ 8 ∧ n = 8 - i ∧ σ = ((i : Int), ((crcIt i c : Nat) : Int), ()) ∧ w4 = w, 8, ⟨0, by omega, rfl, rfl, rfl⟩, ?_⟩
  rintro n σ w4 ⟨i, hi, rfl, rfl, rfl⟩ _
  dsimp only
  have hlt := crcIt_lt hc i
  refine brc_intro (fun h' => ?_) (fun h' => ?_)
  · have h' : i < 8 := by simp at h'; omega
    refine ⟨by omega, ?_⟩
    rw [tm2, td2, wu32 (x := crcIt i c / 2) (by omega)]
    refine brc_intro (fun h1 => ?_) (fun h1 => ?_)
    · have h1 : crcIt i c % 2 = 1 := by simp at h1; omega
      refine ⟨by omega, 8 - (i + 1), by omega, i + 1, by omega, rfl, ?_, rfl⟩
      have := u32_xor (x := crcIt i c / 2) (y := 2197175160) (by omega) (by omega)
      have e2 : crcIt (i + 1) c = crcIt i c / 2 ^^^ 2197175160 := by
        show crcStep (crcIt i c) = _
        unfold crcStep
        rw [if_pos h1]
      rw [e2, ← this, w64 (by omega) (by omega)]
      rfl
    · have h1 : ¬ crcIt i c % 2 = 1 := by simp at h1; omega
      refine ⟨by omega, 8 - (i + 1), by omega, i + 1, by omega, rfl, ?_, rfl⟩
      have e2 : crcIt (i + 1) c = crcIt i c / 2 := by
        show crcStep (crcIt i c) = _
        unfold crcStep
        rw [if_neg h1]
      rw [e2, w64 (by omega) (by omega)]
      rfl
  · have h' : i = 8 := by simp at h'; omega
    subst h'
    exact ⟨rfl, rfl⟩

theorem k162 {E w : World} {L : List Chunk} {s : SV} {l : List UInt8} (hS : Sep E w L) (hr : RdB L s l) (hb : l.length ≤ 1099511627776) :
    Calls Pr 162 #[.int .u32 0, .slice s.a s.len s.cap] w fun e w' => e = .returned (.int .u32 ((crcSum l : Nat) : Int)) ∧ w' = w := by
  refine call162 ?_
  unfold ir162
  have hsz := hr.size
  refine ⟨fun n σ w4 => ∃ k : Nat, k ≤ l.length ∧ n = l.length - k ∧ σ = ((k : Int), (((l.take k).foldl crcOne (4294967295 ^^^ 0) : Nat) : Int), ()) ∧ w4 = w, l.length, ⟨0, by omega, rfl, ?_, rfl⟩, ?_⟩
  · have := u32_xor (x := 4294967295) (y := 0) (by omega) (by omega)
    simp only [List.take_zero, List.foldl_nil]
    rw [← this]
    rfl
  rintro n σ w4 ⟨k, hk, rfl, rfl, rfl⟩ _
  dsimp only
  have hlt := crcFold_lt (l.take k) (c := 4294967295 ^^^ 0) (by decide)
  generalize hcc : (l.take k).foldl crcOne (4294967295 ^^^ 0) = c at hlt
  refine brc_intro (fun h => ?_) (fun h => ?_)
  · have h : k < l.length := by simp at h; omega
    refine ⟨⟨by omega, by omega⟩, ?_⟩
    obtain ⟨a, ha, hat⟩ := hr.idx (i := k) (v := byteV l[k]) (by simp [h]) hS (fun c hc => hc) (t := 5) (by kernel_rfl)
    rw [ha]
    refine ⟨((l[k].toNat : Nat) : Int), by simpa [byteV] using hat, by omega, ?_⟩
    have hlb := l[k].toNat_lt
    rw [wu32 (x := l[k].toNat) (by omega), u32_xor hlt (by omega), tm256]
    refine (k179 (by omega)).mono ?_
    rintro _ w5 ⟨rfl, rfl⟩
    refine ⟨((crcEntry ((c ^^^ l[k].toNat) % 256) : Nat) : Int), rfl, by omega, l.length - (k + 1), by omega, k + 1, by omega, rfl, ?_, rfl⟩
    rw [w64 (by omega) (by omega), td256, wu32 (x := c / 256) (by omega), u32_xor (crcEntry_lt (by omega)) (by omega)]
    have ht : l.take (k + 1) = l.take k ++ [l[k]] := by rw [List.take_add_one]; simp [h]
    rw [ht, List.foldl_append, hcc]
    rfl
  · have h : k = l.length := by simp at h; omega
    subst h
    have := u32_xor (x := 4294967295) (y := c) (by omega) hlt
    rw [List.take_length] at hcc
    refine ⟨?_, rfl⟩
    have e : crcSum l = 4294967295 ^^^ c := by rw [← hcc]; rfl
    rw [e, ← this]
    rfl

theorem k150 {E w : World} {L : List Chunk} {s : SV} {l : List UInt8} (hS : Sep E w L) (hr : RdB L s l) (hb : l.length ≤ 1099511627776) :
    Calls Pr 150 #[.slice s.a s.len s.cap] w fun e w' => e = .returned (.int .u32 ((crcSum l : Nat) : Int)) ∧ w' = w := by
  refine call150 ?_
  unfold ir150
  refine (k162 hS hr hb).mono ?_
  rintro _ w1 ⟨rfl, rfl⟩
  exact ⟨_, rfl, rfl, rfl⟩

theorem u8m {x y : Nat} (h : x % 256 = y % 256) : UInt8.ofNat x = UInt8.ofNat y := by
  apply UInt8.toNat_inj.1
  rw [UInt8.toNat_ofNat', UInt8.toNat_ofNat']
  exact h

/-- creelref03.Seal. -/
theorem k128 {E w : World} {L : List Chunk} {s : SV} {l : List UInt8} (hS : Sep E w L) (hr : RdB L s l) (hb : l.length ≤ 1000000000000) :
    Calls Pr 128 #[.slice s.a s.len s.cap] w fun e w' => ∃ (s' : SV) (C : List Chunk), e = .returned (.slice s'.a s'.len s'.cap) ∧ RdB C s' (sealL l) ∧ Sep E w' (C ++ L) := by
  refine call128 ?_
  unfold ir128
  refine (k150 hS hr (by omega)).mono ?_
  rintro _ w1 ⟨rfl, rfl⟩
  refine ⟨_, rfl, ?_⟩
  obtain ⟨s1, w2, h2, s2, w3, C, h3, ho, hS3⟩ := hS.clone hr (by omega) (ty := 26)
  refine ⟨s1, w2, h2, s2, w3, h3, by omega, by omega, by omega, by omega, by omega, by omega, ?_⟩
  have hlt := crcSum_lt l
  have hle : le4 (crcSum l) = [UInt8.ofNat (crcSum l % 256), UInt8.ofNat (crcSum l / 256 % 256), UInt8.ofNat (crcSum l / 65536 % 256), UInt8.ofNat (crcSum l / 16777216)] := by
    show [UInt8.ofNat (crcSum l / 256 ^ 0), UInt8.ofNat (crcSum l / 256 ^ 1), UInt8.ofNat (crcSum l / 256 ^ 2), UInt8.ofNat (crcSum l / 256 ^ 3)] = _
    rw [show (256 : Nat) ^ 0 = 1 by rfl, show (256 : Nat) ^ 1 = 256 by rfl, show (256 : Nat) ^ 2 = 65536 by rfl, show (256 : Nat) ^ 3 = 16777216 by rfl, u8m (x := crcSum l / 1) (y := crcSum l % 256) (by omega), u8m (x := crcSum l / 256) (y := crcSum l / 256 % 256) (by omega), u8m (x := crcSum l / 65536) (y := crcSum l / 65536 % 256) (by omega)]
  generalize hc : crcSum l = c at hlt hle
  rw [tm256, td256, td65536, td16777216, wu32 (x := c / 256) (by omega), wu32 (x := c / 65536) (by omega), wu32 (x := c / 16777216) (by omega), tm256, tm256, wu8, wu8, wu8, wu8]
  obtain ⟨s3, w4, C3, h4, ho3, hS4⟩ := hS3.litB (n := 4) (parts := [(0, .int .u8 ((c % 256 % 256 : Nat) : Int)), (1, .int .u8 ((c / 256 % 256 % 256 : Nat) : Int)), (2, .int .u8 ((c / 65536 % 256 % 256 : Nat) : Int)), (3, .int .u8 ((c / 16777216 % 256 : Nat) : Int))]) (l := [UInt8.ofNat (c % 256), UInt8.ofNat (c / 256 % 256), UInt8.ofNat (c / 65536 % 256), UInt8.ofNat (c / 16777216)]) rfl (by omega) (by
    simp only [List.map_cons, List.map_nil, byteV_ofNat]
    kernel_rfl)
  refine ⟨s3, w4, h4, ?_⟩
  have hS4' : Sep E w4 (C ++ (C3 ++ L)) := hS4.weak (by intro f; simp only [ms_append, ms_cons, ms_nil]; omega)
  obtain ⟨s4, w5, C4, h5, ho4, hS5⟩ := hS4'.appB (ty := 26) ho ((ho3.rdl L).right C) (by simp; omega)
  refine ⟨s4, w5, h5, s4, C4 ++ C3, rfl, ?_, by rw [List.append_assoc]; exact hS5⟩
  unfold sealL
  rw [hc, hle]
  exact ho4.rdl C3

/-- creelref01.Fix. -/
theorem k129 {E w : World} {L : List Chunk} {s : SV} {l : List UInt8} (hS : Sep E w L) (hr : RdB L s l) (hb : l.length ≤ 1099511627776) {n k : Nat} (hk : k ≤ 8) (hk0 : 0 < k) (hn : n < 18446744073709551616) :
    Calls Pr 129 #[.slice s.a s.len s.cap, .int .u64 ((n : Nat) : Int), .int .i64 ((k : Nat) : Int)] w fun e w' => ∃ (s' : SV) (C : List Chunk), e = .returned (.slice s'.a s'.len s'.cap) ∧ Own 5 1 s' ((l ++ bigE n k).map byteV) C ∧ Sep E w' (C ++ L) := by
  refine call129 ?_
  unfold ir129
  obtain ⟨s0, w0, h0, s1, w1, C, h1, ho, hS1⟩ := hS.clone hr (by omega) (ty := 26)
  refine ⟨s0, w0, h0, s1, w1, h1, brc_false (decide_eq_false (by omega)) (brc_false (decide_eq_false (by omega)) ?_)⟩
  refine ⟨fun r σ w2 => ∃ (m : Nat) (l' : List UInt8) (C : List Chunk), m ≤ k ∧ r = m ∧ l'.length ≤ l.length + 8 ∧ σ.1 = ((m : Nat) : Int) - 1 ∧ l' ++ bigE n m = l ++ bigE n k ∧ Own 5 1 σ.2.1 (l'.map byteV) C ∧ Sep E w2 (C ++ L), k, ⟨k, l, C, Nat.le_refl _, rfl, by omega, w64 (by omega) (by omega), rfl, ho, hS1⟩, ?_⟩
  rintro r ⟨i, s2, u⟩ w2 ⟨m, l', C, hm, hrm, hl', hi, he, ho, hS2⟩ _
  dsimp only at hi ho ⊢
  subst hi
  refine brc_intro (fun h => ?_) (fun h => ?_)
  · have h : 0 < m := by simp at h; omega
    obtain ⟨m, rfl⟩ : ∃ m', m = m' + 1 := ⟨m - 1, by omega⟩
    have e0 : (((m + 1 : Nat) : Int) - 1) = ((m : Nat) : Int) := by omega
    rw [e0]
    refine ⟨fun r σ w4 => ∃ i : Nat, i ≤ m ∧ r = m - i ∧ σ = ((i : Int), ((n / 256 ^ i : Nat) : Int), ()) ∧ w4 = w2, m, ⟨0, by omega, rfl, by simp, rfl⟩, ?_⟩
    rintro r' σ w4 ⟨i, hi, rfl, rfl, rfl⟩ _
    dsimp only
    have hle : n / 256 ^ i ≤ n := Nat.div_le_self _ _
    refine brc_intro (fun h' => ?_) (fun h' => ?_)
    · have h' : i < m := by simp at h'; omega
      refine ⟨by omega, m - (i + 1), by omega, i + 1, by omega, rfl, ?_, rfl⟩
      rw [td256, w64 (by omega) (by omega), Nat.div_div_eq_div_mul, ← Nat.pow_succ]
      have hle' : n / 256 ^ i.succ ≤ n := Nat.div_le_self _ _
      generalize hq : n / 256 ^ i.succ = q at hle'
      rw [IntKind.wrap_u64, Int.emod_eq_of_lt (by omega) (by omega), ← hq]
      rfl
    · have h' : i = m := by simp at h'; omega
      subst h'
      refine ⟨by omega, ?_⟩
      rw [tm256, wu8]
      obtain ⟨s3, w3, C3, h3, ho3, hS3⟩ := hS2.litB (n := 1) (parts := [(0, .int .u8 ((n / 256 ^ i % 256 % 256 : Nat) : Int))]) (l := [UInt8.ofNat (n / 256 ^ i)]) rfl (by omega) (by
        simp only [List.map_cons, List.map_nil, byteV_ofNat]
        rw [Nat.mod_mod]
        kernel_rfl)
      refine ⟨s3, w3, h3, ?_⟩
      have hS3' : Sep E w3 (C ++ (C3 ++ L)) := hS3.weak (by intro f; simp only [ms_append, ms_cons, ms_nil]; omega)
      have hlen : (l' ++ bigE n (i + 1)).length = (l ++ bigE n k).length := by rw [he]
      simp only [List.length_append, bigE_len] at hlen
      obtain ⟨s4, w4, C4, h4, ho4, hS4⟩ := hS3'.appB (ty := 26) ho ((ho3.rdl L).right C) (by simp; omega)
      refine ⟨s4, w4, h4, i, by omega, i, _, C4, by omega, rfl, ?_, ?_, ?_, ho4, hS4.weak (by intro f; simp only [ms_append, ms_cons, ms_nil]; omega)⟩
      · simp; omega
      · show IntKind.wrap .i64 (((i : Nat) : Int) - 1) = _
        rw [w64 (by omega) (by omega)]
      · rw [← he]
        simp [bigE]
  · have h : m = 0 := by simp at h; omega
    subst h
    have he : l' = l ++ bigE n k := by simpa [bigE] using he
    subst he
    exact ⟨s2, C, rfl, ho, hS2⟩

/-- creelref03.Put. -/
theorem k70 {E w : World} {L : List Chunk} {s x : SV} {l m : List UInt8} (hS : Sep E w L) (hs : RdB L s l) (hx : RdB L x m) (hb : l.length ≤ 1000000000000) (hm : m.length ≤ 4096) :
    Calls Pr 70 #[.slice s.a s.len s.cap, .slice x.a x.len x.cap] w fun e w' => ∃ (s' : SV) (C : List Chunk), e = .returned (.tuple #[.slice s'.a s'.len s'.cap, .int .i64 0]) ∧ RdB C s' (l ++ frameL m) ∧ Sep E w' (C ++ L) := by
  refine call70 ?_
  unfold ir70
  have hsz := hx.size
  refine brc_false (decide_eq_false (by omega)) ?_
  have hw : IntKind.wrap .u64 ((x.len : Nat) : Int) = ((m.length : Nat) : Int) := by rw [hsz, IntKind.wrap_u64]; omega
  rw [hw]
  refine (k129 (s := SV.nil) (l := []) hS (RdS.none L 1) (by simp) (n := m.length) (k := 4) (by omega) (by omega) (by omega)).mono ?_
  rintro _ w1 ⟨s1, C1, rfl, ho1, hS1⟩
  refine ⟨s1, rfl, ?_⟩
  obtain ⟨s2, w2, C2, h2, ho2, hS2⟩ := hS1.appB (ty := 26) ho1 (hx.right C1) (by simp [bigE_len]; omega)
  refine ⟨s2, w2, h2, (k128 hS2 (ho2.rdl L) (by simp [bigE_len]; omega)).mono ?_⟩
  rintro _ w3 ⟨s3, C3, rfl, hr3, hS3⟩
  refine ⟨s3, rfl, ?_⟩
  obtain ⟨s4, w4, h4, s5, w5, C5, h5, ho5, hS5⟩ := hS3.clone ((hs.right C2).right C3) (by omega) (ty := 26)
  refine ⟨s4, w4, h4, s5, w5, h5, ?_⟩
  have hlen : (sealL ([] ++ bigE m.length 4 ++ m)).length = m.length + 8 := by simp [sealL_len, bigE_len]; omega
  obtain ⟨s6, w6, C6, h6, ho6, hS6⟩ := hS5.appB (ty := 26) ho5 ((hr3.left _).right C5) (by rw [hlen]; omega)
  refine ⟨s6, w6, h6, s6, C6 ++ (C3 ++ C2), rfl, ?_, ?_⟩
  · exact ho6.rdl _
  · simp only [List.append_assoc]
    exact hS6

end Go.Proofs.Ytonjaaljnjjjcaa

/- Lists of lists of bytes: few, Same. Conditions: as each lemma says. -/
set_option linter.unusedVariables false
set_option linter.unusedSimpArgs false
namespace Go.Proofs.Ytonjaaljnjjjcaa
open Go Go.RowKit

/-- A slice of slices of bytes. -/
def RdL (I : List Chunk) (s : SV) (ls : List (List UInt8)) : Prop := ∃ ss : List SV, RdS I 1 s (ss.map slV) ∧ RdBs I ss ls

theorem RdL.mono {I I' : List Chunk} {s : SV} {ls : List (List UInt8)} (h : RdL I s ls) (hI : ∀ c ∈ I, c ∈ I') : RdL I' s ls := by
  obtain ⟨ss, h1, h2⟩ := h
  exact ⟨ss, h1.mono hI, h2.mono hI⟩
theorem RdL.size {I : List Chunk} {s : SV} {ls : List (List UInt8)} (h : RdL I s ls) : s.len = ls.length := by
  obtain ⟨ss, h1, h2⟩ := h
  rw [h1.len1, List.length_map, h2.1]
theorem RdL.right {I : List Chunk} {s : SV} {ls : List (List UInt8)} (h : RdL I s ls) (C : List Chunk) : RdL (C ++ I) s ls := h.mono fun c hc => List.mem_append_right _ hc
theorem RdL.none (I : List Chunk) : RdL I SV.nil [] := ⟨[], RdS.none I 1, RdBs.nil I⟩

/-- An element, read. -/
theorem RdL.idx {I : List Chunk} {s : SV} {ls : List (List UInt8)} (h : RdL I s ls) {k : Nat} (hk : k < ls.length) {E w : World} {L : List Chunk} (hS : Sep E w L) (hI : ∀ c ∈ I, c ∈ L) :
    ∃ a x, s.a = some a ∧ At Pr w (loadVar 26 (a.add (k * 1))) (.slice x.a x.len x.cap) ∧ RdB I x ls[k] := by
  obtain ⟨ss, h1, h2⟩ := h
  obtain ⟨x, l, hx, hl, hr, _⟩ := h2.at_ hk
  obtain ⟨a, ha, hat⟩ := h1.idx (i := k) (v := slV x) (by simp [hx]) hS hI (t := 26) (by kernel_rfl)
  have : l = ls[k] := by
    rw [List.getElem?_eq_getElem hk] at hl
    simpa using hl.symm
  subst this
  exact ⟨a, x, ha, hat, hr⟩

theorem RdS.idxU {I : List Chunk} {s : SV} {xs : List Value} (h : RdS I 1 s xs) {i : Nat} {v : Value} (hv : xs[i]? = some v) {t : TypeId} (ht : oneT Pr t = true) :
    ∃ a, s.a = some a ∧ ∀ {E w : World} {L : List Chunk}, Sep E w L → (∀ c ∈ I, c ∈ L) → At Pr w (loadVar t (a.add (i * 1))) v := by
  cases ha : s.a with
  | none =>
    have h0 := h.nil ha
    have h1 := h.len1
    have : i < xs.length := (List.getElem?_eq_some_iff.1 hv).1
    omega
  | some a =>
    refine ⟨a, rfl, fun hS hI => ?_⟩
    obtain ⟨b, hb, hat⟩ := h.idx hv hS hI ht
    have e : a = b := Option.some.inj (ha.symm.trans hb)
    rw [e]
    exact hat

/-- An element, read in whatever world. -/
theorem RdL.idxU {I : List Chunk} {s : SV} {ls : List (List UInt8)} (h : RdL I s ls) {k : Nat} (hk : k < ls.length) :
    ∃ a x, s.a = some a ∧ RdB I x ls[k] ∧ ∀ {E w : World} {L : List Chunk}, Sep E w L → (∀ c ∈ I, c ∈ L) → At Pr w (loadVar 26 (a.add (k * 1))) (.slice x.a x.len x.cap) := by
  obtain ⟨ss, h1, h2⟩ := h
  obtain ⟨x, l, hx, hl, hr, _⟩ := h2.at_ hk
  obtain ⟨a, ha, hat⟩ := h1.idxU (i := k) (v := slV x) (by simp [hx]) (t := 26) (by kernel_rfl)
  have : l = ls[k] := by
    rw [List.getElem?_eq_getElem hk] at hl
    simpa using hl.symm
  subst this
  exact ⟨a, x, ha, hr, hat⟩

/-- Lists of lists, owned. -/
structure OwnL (s : SV) (ss : List SV) (ls : List (List UInt8)) (C I : List Chunk) : Prop where
  own : Own 26 1 s (ss.map slV) C
  rds : RdBs I ss ls

theorem OwnL.size {s : SV} {ss : List SV} {ls : List (List UInt8)} {C I : List Chunk} (h : OwnL s ss ls C I) : s.len = ls.length := by
  rw [h.own.rds.len1, List.length_map, h.rds.1]
theorem OwnL.rdl {s : SV} {ss : List SV} {ls : List (List UInt8)} {C I : List Chunk} (h : OwnL s ss ls C I) : RdL (C ++ I) s ls := ⟨ss, h.own.rdl I, h.rds.mono fun c hc => List.mem_append_right _ hc⟩

/-- An element of an owned list of lists. -/
theorem OwnL.idxU {s : SV} {ss : List SV} {ls : List (List UInt8)} {C I : List Chunk} (h : OwnL s ss ls C I) {k : Nat} (hk : k < ls.length) :
    ∃ a x, s.a = some a ∧ RdB I x ls[k] ∧ ∀ {E w : World} {L : List Chunk}, Sep E w L → (∀ c ∈ C, c ∈ L) → At Pr w (loadVar 26 (a.add (k * 1))) (.slice x.a x.len x.cap) := by
  obtain ⟨x, l, hx, hl, hr, _⟩ := h.rds.at_ hk
  obtain ⟨a, ha, hat⟩ := h.own.rds.idxU (i := k) (v := slV x) (by simp [hx]) (t := 26) (by kernel_rfl)
  have : l = ls[k] := by
    rw [List.getElem?_eq_getElem hk] at hl
    simpa using hl.symm
  subst this
  exact ⟨a, x, ha, hr, hat⟩

/-- One more behind a list of lists. -/
theorem Sep.push1 {E w : World} {C L I : List Chunk} {s x : SV} {ss : List SV} {ls : List (List UInt8)} {l : List UInt8} (hS : Sep E w (C ++ L)) (ho : OwnL s ss ls C I) (hx : RdB I x l) (hb : ls.length ≤ 1000000000000) :
    ∃ (s2 : SV) (w2 : World), Sem.run Pr (Instr.buildSlice 22 1 #[(0, .slice x.a x.len x.cap)]) w = .ok (.slice s2.a s2.len s2.cap) w2 ∧
      ∃ (s3 : SV) (w3 : World) (C' G : List Chunk), Sem.run Pr (Builtin.append_ #[22, 22] 22 #[.slice s.a s.len s.cap, .slice s2.a s2.len s2.cap]) w2 = .ok (.slice s3.a s3.len s3.cap) w3 ∧ OwnL s3 (ss ++ [x]) (ls ++ [l]) C' I ∧ Sep E w3 (C' ++ (G ++ L)) := by
  obtain ⟨s2, w2, G, h2, ho2, hS2⟩ := hS.litBs (n := 1) (parts := [(0, .slice x.a x.len x.cap)]) (ss := [x]) rfl (by omega) (by kernel_rfl)
  have hS2' : Sep E w2 (C ++ (G ++ L)) := hS2.weak (by intro f; simp only [ms_append, ms_cons, ms_nil]; omega)
  have hl := ho.size
  have hl2 : s2.len = 1 := by
    have := ho2.rds.len1
    simpa using this
  obtain ⟨s3, w3, C', h3, ho3, _, hS3⟩ := Sep.append (ty := 22) tiBB hS2' ho.own (ho2.rds.src hS2' fun c hc => by simp [hc]) (slV_one [x]) (by rw [hl, hl2]; omega) (by rw [hl, hl2]; unfold maxLen; omega)
  exact ⟨s2, w2, h2, s3, w3, C', G, h3, ⟨by rw [List.map_append]; exact ho3, ho.rds.append ((RdBs.nil I).cons hx)⟩, hS3⟩

def fewL (ls : List (List UInt8)) : List (List UInt8) := (ls.take 60).filter fun l => decide (l.length ≤ 80)

theorem fewL_step {ls : List (List UInt8)} {k : Nat} (h : k < ls.length) : fewL (ls.take (k + 1)) = if k < 60 ∧ ls[k].length ≤ 80 then fewL (ls.take k) ++ [ls[k]] else fewL (ls.take k) := by
  unfold fewL
  have ht : ls.take (k + 1) = ls.take k ++ [ls[k]] := by rw [List.take_add_one]; simp [h]
  have hlen : (ls.take k).length = k := by simp; omega
  rw [ht]
  by_cases hk : k < 60
  · rw [List.take_of_length_le (l := ls.take k ++ [ls[k]]) (by simp; omega), List.take_of_length_le (l := ls.take k) (i := 60) (by omega), List.filter_append]
    by_cases hl : ls[k].length ≤ 80
    · simp [hk, hl]
    · simp [hl]
  · rw [List.take_append_of_le_length (by omega)]
    simp [hk]

/-- few. -/
theorem k61 {E w : World} {L I : List Chunk} {s : SV} {ls : List (List UInt8)} (hS : Sep E w L) (hr : RdL I s ls) (hI : ∀ c ∈ I, c ∈ L) (hb : ls.length ≤ 9223372036854775807) :
    Calls Pr 61 #[.slice s.a s.len s.cap] w fun e w' => ∃ (s' : SV) (ss : List SV) (C G : List Chunk), e = .returned (.slice s'.a s'.len s'.cap) ∧ OwnL s' ss (fewL ls) C I ∧ Sep E w' (C ++ (G ++ L)) := by
  refine call61 ?_
  unfold ir61
  have hsz := hr.size
  refine ⟨fun n σ w3 => ∃ (k : Nat) (ss : List SV) (C G : List Chunk), k ≤ ls.length ∧ n = ls.length - k ∧ σ.1 = (k : Int) ∧ OwnL σ.2.1 ss (fewL (ls.take k)) C I ∧ Sep E w3 (C ++ (G ++ L)), ls.length, ⟨0, [], [], [], Nat.zero_le _, rfl, rfl, ⟨Own.nil _ _, by simpa [fewL] using RdBs.nil I⟩, hS⟩, ?_⟩
  rintro n ⟨i, s3, u⟩ w3 ⟨k, ss, C, G, hk, rfl, hi, ho, hS3⟩ _
  dsimp only at hi ho ⊢
  subst hi
  refine brc_intro (fun h => ?_) (fun h => ?_)
  · have h : k < ls.length := by simp at h; omega
    obtain ⟨a, x, ha, hat, hrx⟩ := hr.idx h hS3 (fun c hc => by simp [hI c hc])
    have hxs := hrx.size
    have hf := fewL_step h
    have hw : IntKind.wrap .i64 ((k : Int) + 1) = ((k + 1 : Nat) : Int) := by rw [w64 (by omega) (by omega)]; omega
    rw [hw]
    refine ⟨⟨by omega, by omega⟩, ?_⟩
    rw [ha]
    refine ⟨x, by simpa using hat, brc_intro (fun h1 => ?_) (fun h1 => ?_)⟩
    · have h1 : k < 60 := by simp at h1; omega
      refine brc_intro (fun h2 => ?_) (fun h2 => ?_)
      · have h2 : ls[k].length ≤ 80 := by simp at h2; omega
        have hfl : (fewL (ls.take k)).length ≤ 60 := Nat.le_trans (List.length_filter_le _ _) (by simp; omega)
        obtain ⟨s4, w4, h4, s5, w5, C5, G5, h5, ho5, hS5⟩ := hS3.push1 ho hrx (by omega)
        refine ⟨s4, w4, h4, s5, w5, h5, ls.length - (k + 1), by omega, k + 1, ss ++ [x], C5, G5 ++ G, by omega, rfl, rfl, ?_, by rw [List.append_assoc]; exact hS5⟩
        rw [hf, if_pos ⟨h1, h2⟩]
        exact ho5
      · have h2 : ¬ ls[k].length ≤ 80 := by simp at h2; omega
        refine ⟨ls.length - (k + 1), by omega, k + 1, ss, C, G, by omega, rfl, rfl, ?_, hS3⟩
        rw [hf, if_neg fun e => h2 e.2]
        exact ho
    · have h1 : ¬ k < 60 := by simp at h1; omega
      refine ⟨ls.length - (k + 1), by omega, k + 1, ss, C, G, by omega, rfl, rfl, ?_, hS3⟩
      rw [hf, if_neg fun e => h1 e.1]
      exact ho
  · have h : k = ls.length := by simp at h; omega
    subst h
    rw [List.take_length] at ho
    exact ⟨s3, ss, C, G, rfl, ho, hS3⟩

end Go.Proofs.Ytonjaaljnjjjcaa

set_option linter.unusedVariables false
set_option linter.unusedSimpArgs false
namespace Go.Proofs.Ytonjaaljnjjjcaa
open Go Go.RowKit

/-- Names. -/
theorem k50 {E w : World} {L I : List Chunk} {M : MDisk} {D : DS} {d : Nat} (hl : M.left ≤ 9223372036854775807) (hS : Sep E w (D.chunks M d ++ L)) (hD : DRep D M I) (hn : M.now.length ≤ 1000000000000) :
    Calls Pr 50 #[.pointer (some ⟨d, 0, none⟩)] w fun e w' => ∃ (s : SV) (C : List Chunk), e = .returned (.tuple #[.slice s.a s.len s.cap, .int .i64 M.names.1]) ∧ RdS C 1 s (M.names.2.1.flatMap encK) ∧ DRep D M.names.2.2 I ∧ Sep E w' (D.chunks M.names.2.2 d ++ (C ++ L)) := by
  refine call50 ?_
  unfold ir50
  refine (k91 (L := _) hl hS).mono ?_
  rintro _ w1 ⟨rfl, hS1⟩
  have hS1 : Sep E w1 (D.chunks M.ready.2 d ++ L) := hS1
  have hD1 := hD.ready
  rw [MDisk.names_st]
  refine ⟨M.ready.1, rfl, brc_intro (fun h => ?_) (fun h => ?_)⟩
  · have h : M.ready.1 ≠ 0 := by simpa using h
    have hf : M.names = (M.ready.1, [], M.ready.2) := by simp [MDisk.names, h]
    rw [hf]
    exact ⟨SV.nil, [], rfl, RdS.none _ _, hD1, hS1⟩
  · have h : M.ready.1 = 0 := by simpa using h
    have hf : M.names = (0, M.ready.2.now.map (·.1), M.ready.2) := by simp [MDisk.names, h]
    rw [hf]
    refine ⟨some D.mn, hS1.load (o := 0) List.mem_cons_self rfl (by kernel_rfl), ?_⟩
    refine (k110 hS1 (List.mem_cons_of_mem _ List.mem_cons_self) hD1.now (by rw [(ready_same M).2.1]; exact hn)).mono ?_
    rintro _ w2 ⟨s, C, G, rfl, ho, hS2⟩
    exact ⟨s, rfl, s, C ++ G, rfl, ho.rds.left G, hD1, hS2.weak (by intro f; simp only [ms_append, ms_cons, ms_nil]; omega)⟩

theorem crash_num {len kept : Nat} (hk : kept ≤ len) (hl : len ≤ 1000000000000) (n2 : Int) :
    IntKind.wrap .i64 ((kept : Int) + (if (IntKind.wrap .i64 (((len : Nat) : Int) - (kept : Int))) < (if 0 > n2 then 0 else n2) then (IntKind.wrap .i64 (((len : Nat) : Int) - (kept : Int))) else (if 0 > n2 then 0 else n2))) = ((kept + min (max n2 0).toNat (len - kept) : Nat) : Int) := by
  have hw : IntKind.wrap .i64 (((len : Nat) : Int) - (kept : Int)) = ((len - kept : Nat) : Int) := by rw [w64 (by omega) (by omega)]; omega
  rw [hw]
  have e : (if ((len - kept : Nat) : Int) < (if 0 > n2 then 0 else n2) then ((len - kept : Nat) : Int) else (if 0 > n2 then 0 else n2)) = ((min (max n2 0).toNat (len - kept) : Nat) : Int) := by
    split <;> split at * <;> omega
  rw [e, w64 (by omega) (by omega)]
  omega

theorem chV_ok (bs : List Nat) : EncOk (chV bs) 3 := ⟨fun _ => rfl, fun c u hu => by simp [chV] at hu; rcases hu with rfl | rfl | rfl <;> rfl, by decide⟩

/-- How the names lie while they get new files, one by one. -/
structure CrashAt (bs nbs : List Nat) (nm : Names) (l : List (Ent ByteArray)) (c : Nat) : Prop where
  wf : MapWf l c
  get : ∀ j x, nm[j]? = some x → getE x.1 l = some (.pointer (if j < nbs.length then filePtr nbs j else filePtr bs x.2))
  none : ∀ k, (∀ x ∈ nm, x.1 ≠ k) → getE k l = none

theorem CrashAt.start {bs : List Nat} {nm : Names} {l : List (Ent ByteArray)} {c : Nat} (h : NameRep bs nm l c) : CrashAt bs [] nm l c :=
  ⟨h.wf, fun j x hx => by
    rw [h.get, findN_mem h.sorted (List.mem_of_getElem? hx)]
    simp, fun k hk => by
    rw [h.get, findN_none_of hk]
    rfl⟩

theorem names_inj {nm : Names} (hs : SortedN nm) {i j : Nat} {x y : ByteArray × Nat} (hx : nm[i]? = some x) (hy : nm[j]? = some y) (h : x.1 = y.1) : i = j := by
  obtain ⟨hi, rfl⟩ := List.getElem?_eq_some_iff.1 hx
  obtain ⟨hj, rfl⟩ := List.getElem?_eq_some_iff.1 hy
  rcases Nat.lt_trichotomy i j with hlt | rfl | hlt
  · exact absurd h (nlt_ne (List.pairwise_iff_getElem.1 hs i j hi hj hlt))
  · rfl
  · exact absurd h.symm (nlt_ne (List.pairwise_iff_getElem.1 hs j i hj hi hlt))

theorem CrashAt.step {bs nbs : List Nat} {nm : Names} {l : List (Ent ByteArray)} {c b : Nat} (h : CrashAt bs nbs nm l c) (hs : SortedN nm) {x : ByteArray × Nat} (hx : nm[nbs.length]? = some x) :
    CrashAt bs (nbs ++ [b]) nm (setE x.1 (.pointer (some ⟨b, 0, Option.none⟩)) c l) (if (getE x.1 l).isSome then c else c + 1) := by
  refine ⟨h.wf.set _ _, fun j y hy => ?_, fun k hk => ?_⟩
  · rw [getE_setE]
    by_cases he : y.1 = x.1
    · have hj := names_inj hs hy hx he
      rw [if_pos he, hj, if_pos (by simp)]
      simp [filePtr]
    · rw [if_neg he, h.get j y hy]
      congr 2
      have hne : j ≠ nbs.length := fun e => by
        rw [e, hx] at hy
        exact he (by rw [Option.some.inj hy])
      by_cases hlt : j < nbs.length
      · rw [if_pos hlt, if_pos (by simp; omega), filePtr_push _ _ _ hlt]
      · rw [if_neg hlt, if_neg (by simp; omega)]
  · rw [getE_setE, if_neg fun e => hk x (List.mem_of_getElem? hx) e.symm, h.none k hk]

theorem CrashAt.done {bs nbs : List Nat} {nm : Names} {l : List (Ent ByteArray)} {c : Nat} (h : CrashAt bs nbs nm l c) (hs : SortedN nm) (hn : nbs.length = nm.length) : NameRep nbs (MDisk.numbered 0 nm) l c := by
  have hsn := MDisk.numbered_sorted hs 0
  have hmem : ∀ k i, findN k (MDisk.numbered 0 nm) = some i → ∃ y, nm[i]? = some y ∧ y.1 = k := fun k i hf => by
    obtain ⟨j, hj⟩ := List.getElem?_of_mem (mem_of_findN hf)
    obtain ⟨h1, y, h2, h3⟩ := MDisk.numbered_get _ _ _ _ hj
    simp only [Nat.zero_add] at h1
    subst h1
    exact ⟨y, h2, h3⟩
  refine ⟨h.wf, fun k => ?_, fun k i hf => ?_, hsn⟩
  · cases hf : findN k (MDisk.numbered 0 nm) with
    | none =>
      rw [h.none k fun x hx e => ?_]
      · rfl
      · have : x.1 ∈ (MDisk.numbered 0 nm).map (·.1) := by
          rw [MDisk.numbered_fst]
          exact List.mem_map.2 ⟨x, hx, rfl⟩
        obtain ⟨y, hy, hye⟩ := List.mem_map.1 this
        have := findN_mem hsn hy
        rw [hye, e, hf] at this
        cases this
    | some i =>
      obtain ⟨y, hy, rfl⟩ := hmem k i hf
      have hi := (List.getElem?_eq_some_iff.1 hy).1
      rw [h.get i y hy, if_pos (by omega)]
      rfl
  · obtain ⟨y, hy, _⟩ := hmem k i hf
    have hi := (List.getElem?_eq_some_iff.1 hy).1
    omega

theorem crashed_get (M : MDisk) (ns : List Int) : ∀ (nm : Names) (i j : Nat) (x : ByteArray × Nat), nm[j]? = some x →
    (M.crashed ns i nm)[j]? = some ⟨(M.fileAt x.2).bytes.take ((M.fileAt x.2).kept + MDisk.leftOf ns (i + j) ((M.fileAt x.2).bytes.length - (M.fileAt x.2).kept)), (M.fileAt x.2).kept + MDisk.leftOf ns (i + j) ((M.fileAt x.2).bytes.length - (M.fileAt x.2).kept)⟩
  | [], i, j, x, h => by simp at h
  | y :: nm, i, 0, x, h => by
    simp at h
    subst h
    rfl
  | y :: nm, i, j + 1, x, h => by
    have := crashed_get M ns nm (i + 1) j x (by simpa using h)
    simp only [MDisk.crashed, List.getElem?_cons_succ, this]
    have e : i + 1 + j = i + (j + 1) := by omega
    rw [e]

theorem leftOf_at : ∀ {ns : List Int} {i : Nat} (hp : 0 < ns.length) (hm : i % ns.length < ns.length) (most : Nat), MDisk.leftOf ns i most = min (max ns[i % ns.length] 0).toNat most
  | [], i, hp, _, _ => by simp at hp
  | y :: ys, i, _, hm, most => by
    show min (max ((y :: ys).getD (i % (y :: ys).length) 0) 0).toNat most = _
    rw [List.getD_eq_getElem?_getD, List.getElem?_eq_getElem hm]
    rfl

theorem u170 : Pr.underlying 170 = some (.map 141 141) := by kernel_rfl

abbrev intV (n : Int) : Value := .int .i64 n

/-- Crash. -/
theorem k45 {E w : World} {L I : List Chunk} {M : MDisk} {D : DS} {d n b : Nat} (hS : Sep E w (D.chunks M d ++ L)) (hD : DRep D M I) (hI : ∀ c ∈ I, c ∈ L) (hg : M.Good) (hm : M.Small n b) (hn : n ≤ 1000000) (hb : b ≤ 1000000000)
    (n0 : Int) {sb : SV} {ns : List Int} (hr : RdS L 1 sb (ns.map intV)) :
    Calls Pr 45 #[.pointer (some ⟨d, 0, none⟩), .agg #[.int .i64 n0, .slice sb.a sb.len sb.cap]] w fun e w' => ∃ (D' : DS) (C : List Chunk), e = .returned (.int .i64 0) ∧ DRep D' (M.crash n0 ns) I ∧ Sep E w' (D'.chunks (M.crash n0 ns) d ++ (C ++ L)) := by
  refine call45 ?_
  unfold ir45
  obtain ⟨a1, w1, h1, hS1⟩ := hS.newVar (t := 63) (v := .agg #[intV n0, slV sb])
  refine ⟨_, w1, h1, brc_false rfl ?_⟩
  let wC : Chunk := (a1, .cells (Value.agg #[intV n0, slV sb]).cells 63 (0, 0))
  have hS1 : Sep E w1 (wC :: (D.chunks M d ++ L)) := hS1
  refine ⟨some D.mq, hS1.load (b := d) (o := 1) (List.mem_cons_of_mem _ List.mem_cons_self) rfl (by kernel_rfl), ?_⟩
  refine (k108 hS1 (l := D.lk) (c := D.ck) (by simp [DS.chunks])).mono ?_
  rintro _ w2 ⟨m2, rfl, hS2⟩
  let F : List Chunk := wC :: (D.chunks M d ++ L)
  have hS2 : Sep E w2 (strM m2 D.lk D.ck :: F) := hS2
  have md : dChunk M d D.mn D.mq D.cs ∈ F := by simp [F, DS.chunks]
  have mw : wC ∈ F := List.mem_cons_self
  refine ⟨some m2, rfl, fun w => Sep E w F, hS2.drew.weak (by intro f; simp only [ms_append, ms_cons, ms_nil]; omega), ?_⟩
  refine ⟨D.cs, fun w hw => hw.load (b := d) (o := 2) md rfl (by kernel_rfl), n0, fun w hw => hw.load (b := a1) (o := 0) mw rfl (by kernel_rfl), D.cs, fun w hw => hw.load (b := d) (o := 2) md rfl (by kernel_rfl), ?_⟩
  have hcl : D.cs.len = M.changes.length := RdG.size (chV_ok D.bs) hD.own.rds
  have hcc := hD.own.rds.cap
  have hnm := hm.names
  have hk0 : (if ((D.cs.len : Nat) : Int) < (if 0 > n0 then 0 else n0) then ((D.cs.len : Nat) : Int) else (if 0 > n0 then 0 else n0)) = (((M.changes.take n0.toNat).length : Nat) : Int) := by
    rw [hcl, List.length_take]
    split <;> split at * <;> omega
  rw [hk0]
  simp only [Int.toNat_natCast, Nat.sub_zero]
  have hkl : (M.changes.take n0.toNat).length ≤ M.changes.length := by rw [List.length_take]; omega
  refine ⟨⟨by omega, by omega⟩, ?_⟩
  generalize hts : M.changes.take n0.toNat = tch at hkl
  rw [cutAt_zero]
  -- the changes, one by one
  refine ⟨fun k σ w3 => ∃ (j : Nat) (l : List (Ent ByteArray)) (c : Nat) (G : List Chunk), j ≤ tch.length ∧ k = tch.length - j ∧ σ = ((j : Int), ()) ∧ NameRep D.bs ((tch.take j).foldl doN M.kept) l c ∧ Sep E w3 (strM m2 l c :: (G ++ F)), tch.length, ⟨0, D.lk, D.ck, [], Nat.zero_le _, rfl, rfl, hD.kept, hS2.drew⟩, ?_⟩
  rintro k σ w3 ⟨j, l, c, G, hj, rfl, rfl, hnr, hS3⟩ _
  dsimp only
  refine brc_intro (fun h => ?_) (fun h => ?_)
  · have h : j < tch.length := by simp at h; omega
    refine ⟨⟨by omega, by omega⟩, ?_⟩
    have hxj : M.changes[j]? = some tch[j] := by
      have h1 : tch[j]? = some tch[j] := List.getElem?_eq_getElem h
      have h2 : (M.changes.take n0.toNat)[j]? = some tch[j] := by rw [hts]; exact h1
      rw [List.getElem?_take] at h2
      split at h2
      · exact h2
      · cases h2
    obtain ⟨a, ha, hat, _⟩ := RdG.at_ (chV_ok D.bs) hD.own.rds hxj
    rw [ha]
    have hxm : tch[j] ∈ M.changes := List.mem_of_getElem? hxj
    have htj : tch[j]? = some tch[j] := List.getElem?_eq_getElem h
    generalize tch[j] = x at *
    generalize hp : (if x.new = noName then none else filePtr D.bs x.file) = p
    have hch : chV D.bs x = [.string x.gone, .string x.new, .pointer p] := by simp [chV, hp]
    refine ⟨x.gone, x.new, p, ?_, ?_⟩
    · have := hat (t := 153) (by kernel_rfl) (by kernel_rfl) hS3 (fun c hc => by simp [F, DS.chunks, hc])
      rw [hch] at this
      exact this
    obtain ⟨a6, w4, h4, hS4⟩ := hS3.alloc (t := 153) z153
    refine ⟨_, w4, h4, ?_⟩
    obtain ⟨w5, h5, hS5⟩ := Sep.store (cs := [.string ByteArray.empty, .string ByteArray.empty, .pointer none]) (o := 0) (n := 3) (v := .agg #[.string x.gone, .string x.new, .pointer p]) (t := 153) hS4 (by kernel_rfl) rfl (by simp) (by simp [Value.cells, Value.oneCell'])
    have hS5 : Sep E w5 ((a6, .cells [.string x.gone, .string x.new, .pointer p].toArray 153 (0, 0)) :: strM m2 l c :: (G ++ F)) := hS5
    refine ⟨w5, h5, x.gone, x.new, p, hS5.loadS (o := 0) (n := 3) List.mem_cons_self (by kernel_rfl) (by kernel_rfl) rfl (by simp), ?_⟩
    have hS5' : Sep E w5 (strM m2 l c :: ((a6, .cells [.string x.gone, .string x.new, .pointer p].toArray 153 (0, 0)) :: (G ++ F))) := hS5.weak (by intro f; simp only [ms_append, ms_cons, ms_nil]; omega)
    refine (k109 hS5' hnr.wf).mono ?_
    rintro _ w6 ⟨l', c', C6, rfl, hwf, hS6, hget⟩
    refine ⟨rfl, tch.length - (j + 1), by omega, j + 1, l', c', C6 ++ (a6, .cells [.string x.gone, .string x.new, .pointer p].toArray 153 (0, 0)) :: G, by omega, rfl, by rw [w64 (by omega) (by omega)]; rfl, ?_, hS6.weak (by intro f; simp only [ms_append, ms_cons, ms_nil]; omega)⟩
    have hst := hnr.step (x := x) hwf (fun hn => hD.chOk x hxm hn) (by rw [hp]; exact hget)
    have htk : tch.take (j + 1) = tch.take j ++ [x] := by rw [List.take_add_one, htj]; rfl
    rw [htk, List.foldl_append]
    exact hst
  have h : j = tch.length := by simp at h; omega
  subst h
  rw [List.take_length] at hnr
  have hnm' : tch.foldl doN M.kept = M.left_ n0 := by rw [← hts]; rfl
  rw [hnm'] at hnr
  have hlB := hg.leftB n0
  have hlS := hg.leftS n0
  have hll := MDisk.left_len M n0
  generalize hnm : M.left_ n0 = nm at *
  refine (k110 hS3 (l := l) (c := c) List.mem_cons_self hnr (by omega)).mono ?_
  rintro _ w7 ⟨s3, C7, G7, rfl, ho7, hS7⟩
  refine ⟨s3, rfl, ?_⟩
  have h3l : s3.len = nm.length := by
    have := RdG.size encK_ok ho7.rds
    simpa using this
  have hbl := bs_len hD
  have hFL : ∀ c ∈ L, c ∈ F := fun c hc => by simp [F, hc]
  -- the names, one by one
  refine ⟨fun k σ w => ∃ (i : Nat) (nfs : List FRec) (l : List (Ent ByteArray)) (c : Nat) (G2 : List Chunk), i ≤ nm.length ∧ k = nm.length - i ∧ σ = ((i : Int), ()) ∧ nfs.length = i ∧ nfs.map (·.f) = (M.crashed ns 0 nm).take i ∧ (∀ r ∈ nfs, RdB I r.s r.f.bytes) ∧ CrashAt D.bs (nfs.map (·.b)) nm l c ∧
    Sep E w (strM m2 l c :: (nfs.map fChunk ++ (C7 ++ (G2 ++ F)))), nm.length, ⟨0, [], l, c, G7 ++ G, Nat.zero_le _, rfl, rfl, rfl, rfl, (fun r hr => by cases hr), CrashAt.start hnr, hS7.weak (by intro f; simp only [List.map_nil, ms_append, ms_cons, ms_nil]; omega)⟩, ?_⟩
  rintro k σ w8 ⟨i, nfs, l, c, G2, hi, rfl, rfl, hnl, hnf, hnr2, hca, hS8⟩ _
  dsimp only
  refine brc_intro (fun h => ?_) (fun h => ?_)
  · have h : i < nm.length := by simp at h; omega
    refine ⟨⟨by omega, by omega⟩, ?_⟩
    have hxi : nm[i]? = some nm[i] := List.getElem?_eq_getElem h
    obtain ⟨a7, ha7, _, hat7⟩ := RdG.at_ encK_ok ho7.rds (i := i) (x := nm[i].1) (by rw [List.getElem?_map, hxi]; rfl)
    have hcx := crashed_get M ns nm 0 i nm[i] hxi
    rw [Nat.zero_add] at hcx
    generalize nm[i] = x at *
    rw [ha7]
    have hn7 := hat7 (j := 0) (v := .string x.1) (t := 9) rfl (by kernel_rfl) hS8 (fun c hc => by simp [hc])
    rw [addA, Nat.add_zero] at hn7
    refine ⟨x.1, hn7, ?_⟩
    have hge := hca.get i x hxi
    rw [if_neg (by simp [hnl])] at hge
    have hxb : x.2 < D.bs.length := by rw [hbl]; exact hlB x (List.mem_of_getElem? hxi)
    obtain ⟨A, r, B, hfs, _, hfp, hfa, hrm⟩ := hD.file hxb
    rw [hfp] at hge
    have hlk := hS8.lookup (mt := 137) (m := m2) (l := l) (c := c) List.mem_cons_self u137 z141 (keyOk_str u9 w8 l x.1)
    rw [hge] at hlk
    refine ⟨some ⟨r.b, 0, none⟩, hlk, ?_⟩
    rw [hfa] at hcx
    have hrf : r.f ∈ M.files := by rw [← hD.files]; exact List.mem_map.2 ⟨r, hrm, rfl⟩
    have hkf := hg.keptF r.f hrf
    have hbf := hm.each r.f hrf
    have hrr := hD.bytes r hrm
    have hrl := hrr.size
    have hrc := hrr.cap
    let LL : List Chunk := strM m2 l c :: (nfs.map fChunk ++ (C7 ++ (G2 ++ F)))
    have mF : ∀ c ∈ F, c ∈ LL := fun c hc => by simp [LL, hc]
    have mr : fChunk r ∈ LL := mF _ (by
      have : fChunk r ∈ D.fs.map fChunk := List.mem_map.2 ⟨r, hrm, rfl⟩
      simp only [F, DS.chunks, List.mem_cons, List.mem_append]
      exact .inr (.inl (.inr (.inr (.inr (.inr this))))))
    have ldw : ∀ w, Sep E w LL → At Pr w (loadVar 61 (Addr.add ⟨a1, 0, none⟩ 1)) (.slice sb.a sb.len sb.cap) := fun w hw => hw.load (b := a1) (o := 1) (mF _ mw) rfl (by kernel_rfl)
    have ld0 : ∀ w, Sep E w LL → At Pr w (loadVar 26 (Addr.add ⟨r.b, 0, none⟩ 0)) (.slice r.s.a r.s.len r.s.cap) := fun w hw => hw.load (b := r.b) (o := 0) mr rfl (by kernel_rfl)
    have ld1 : ∀ w, Sep E w LL → At Pr w (loadVar 3 (Addr.add ⟨r.b, 0, none⟩ 1)) (.int .i64 (r.f.kept : Int)) := fun w hw => hw.load (b := r.b) (o := 1) mr rfl (by kernel_rfl)
    have hsn := hr.len1
    rw [List.length_map] at hsn
    refine ⟨sb, ldw _ hS8, ?_⟩
    -- a file, put in its place
    have fin : ∀ (w : World) (nn : Nat), Sep E w LL → nn = r.f.kept + MDisk.leftOf ns i (r.f.bytes.length - r.f.kept) → nn ≤ r.s.len →
        ∃ (a13 : Addr) (w9 : World), Sem.run Pr (Instr.box 146 (.agg #[(.slice (cutAt r.s.a 0 nn 1) (nn - 0) (nn - 0)), (.int .i64 (nn : Int))])) w = .ok (.pointer (some a13)) w9 ∧
          ∃ (w10 : World), Sem.run Pr (Instr.mapUpdate 137 (.map (some m2)) (.string x.1) (.pointer (some a13))) w9 = .ok () w10 ∧
            ∃ n', n' < nm.length - i ∧ ∃ (i' : Nat) (nfs : List FRec) (l : List (Ent ByteArray)) (c : Nat) (G2 : List Chunk), i' ≤ nm.length ∧ n' = nm.length - i' ∧ (IntKind.wrap .i64 ((i : Int) + 1), ()) = ((i' : Int), ()) ∧ nfs.length = i' ∧ nfs.map (·.f) = (M.crashed ns 0 nm).take i' ∧ (∀ r ∈ nfs, RdB I r.s r.f.bytes) ∧ CrashAt D.bs (nfs.map (·.b)) nm l c ∧
              Sep E w10 (strM m2 l c :: (nfs.map fChunk ++ (C7 ++ (G2 ++ F)))) := by
      intro w nn hSw hnn hle
      obtain ⟨nb, w9, h9, hS9⟩ := hSw.newVar (t := 146) (v := .agg #[(.slice (cutAt r.s.a 0 nn 1) (nn - 0) (nn - 0)), (.int .i64 (nn : Int))])
      refine ⟨_, w9, h9, ?_⟩
      let nr : FRec := ⟨nb, ⟨cutAt r.s.a 0 nn 1, nn - 0, nn - 0⟩, ⟨r.f.bytes.take nn, nn⟩⟩
      have hS9' : Sep E w9 (strM m2 l c :: (fChunk nr :: (nfs.map fChunk ++ (C7 ++ (G2 ++ F))))) := Sep.weak (L := fChunk nr :: LL) hS9 (by
        intro f
        simp only [LL, ms_append, ms_cons, ms_nil]
        omega)
      obtain ⟨w10, h10, hS10⟩ := hS9'.mapUpdate (mt := 137) u137 (.pointer (some ⟨nb, 0, none⟩)) (keyOk_str u9 w9 l x.1)
      refine ⟨w10, h10, nm.length - (i + 1), by omega, i + 1, nfs ++ [nr], setE x.1 (.pointer (some ⟨nb, 0, none⟩)) c l, (if (getE x.1 l).isSome then c else c + 1), G2, by omega, rfl, by rw [w64 (by omega) (by omega)]; rfl, by simp [hnl], ?_, fun r' hr' => ?_, ?_, Sep.weak (L := strM m2 (setE x.1 (.pointer (some ⟨nb, 0, none⟩)) c l) (if (getE x.1 l).isSome then c else c + 1) :: (fChunk nr :: (nfs.map fChunk ++ (C7 ++ (G2 ++ F))))) hS10 (by
        rw [List.map_append]
        intro f
        simp only [ms_append, ms_cons, ms_nil, List.map_cons, List.map_nil]
        omega)⟩
      · rw [List.map_append, hnf, List.take_add_one, hcx, ← hnn]
        rfl
      · rcases List.mem_append.1 hr' with hr' | hr'
        · exact hnr2 r' hr'
        · rw [List.mem_singleton] at hr'
          subst hr'
          have := hrr.cut (l := 0) (h := nn) (m := nn) (by omega) hle (Nat.le_refl _) (by omega)
          rw [List.drop_zero] at this
          exact this
      · rw [List.map_append]
        have hx' : nm[(nfs.map (·.b)).length]? = some x := by rw [List.length_map, hnl]; exact hxi
        exact hca.step hlS hx'
    refine brc_intro (fun hp => ?_) (fun hp => ?_)
    · have hp : 0 < ns.length := by simp at hp; omega
      have hmod := Nat.mod_lt i hp
      refine ⟨fun w => Sep E w LL, hS8.drew, sb, fun w hw => ldw w hw, sb, fun w hw => ldw w hw, by omega, ?_⟩
      have htm : Int.tmod (i : Int) ((sb.len : Nat) : Int) = ((i % ns.length : Nat) : Int) := by rw [hsn]; exact (Int.ofNat_tmod i ns.length).symm
      rw [htm]
      refine ⟨⟨by omega, by omega⟩, ?_⟩
      have hni : ns[i % ns.length]? = some ns[i % ns.length] := List.getElem?_eq_getElem hmod
      obtain ⟨a8, ha8, hat8⟩ := hr.idxU (i := i % ns.length) (v := intV ns[i % ns.length]) (by rw [List.getElem?_map, hni]; rfl) (t := 3) (by kernel_rfl)
      rw [ha8]
      refine ⟨ns[i % ns.length], fun w hw => hat8 hw (fun c hc => mF c (hFL c hc)), r.s, fun w hw => ld0 w hw, (r.f.kept : Int), fun w hw => ld1 w hw, (r.f.kept : Int), ld1 _ hS8.drew, r.s, ld0 _ hS8.drew, ?_⟩
      have hlo : MDisk.leftOf ns i (r.f.bytes.length - r.f.kept) = min (max ns[i % ns.length] 0).toNat (r.f.bytes.length - r.f.kept) := leftOf_at hp hmod _
      rw [hrl, crash_num hkf (by omega), ← hlo]
      simp only [Int.toNat_natCast]
      have hle := MDisk.leftOf_le ns i (r.f.bytes.length - r.f.kept)
      refine ⟨⟨by omega, by omega⟩, ⟨by omega, by omega⟩, fin _ _ hS8.drew rfl (by omega)⟩
    · have hp : ns = [] := List.eq_nil_of_length_eq_zero (by simp at hp; omega)
      have hlo : MDisk.leftOf ns i (r.f.bytes.length - r.f.kept) = 0 := by rw [hp]; rfl
      have hw : IntKind.wrap .i64 ((r.f.kept : Int) + 0) = ((r.f.kept : Nat) : Int) := by rw [w64 (by omega) (by omega)]; omega
      refine ⟨(r.f.kept : Int), ld1 _ hS8, r.s, ld0 _ hS8, ?_⟩
      rw [hw]
      simp only [Int.toNat_natCast]
      exact ⟨⟨by omega, by omega⟩, ⟨by omega, by omega⟩, fin _ _ hS8 (by rw [hlo]; rfl) (by omega)⟩
  -- the end
  have h : i = nm.length := by simp at h; omega
  have hnr3 := hca.done hlS (by simp [hnl, h])
  refine ⟨fun w => Sep E w F, hS8.drew.weak (by intro f; simp only [ms_append, ms_cons, ms_nil]; omega), (M.room : Int), fun w hw => hw.load (b := d) (o := 3) md rfl (by kernel_rfl), ?_⟩
  refine (k108 hS8.drew (l := l) (c := c) List.mem_cons_self).mono ?_
  rintro _ w13 ⟨m3, rfl, hS13⟩
  refine ⟨some m3, rfl, fun w => Sep E w F, fun w hw => hw, hS13.weak (by intro f; simp only [ms_append, ms_cons, ms_nil]; omega), ?_⟩
  have hS13' : Sep E w13 (dChunk M d D.mn D.mq D.cs :: (strM m3 l c :: strM m2 l c :: (nfs.map fChunk ++ (C7 ++ (G2 ++ (wC :: (strM D.mn D.ln D.cn :: strM D.mq D.lk D.ck :: (D.CC ++ D.fs.map fChunk) ++ L))))))) := hS13.weak (by
    intro f
    simp only [F, DS.chunks, ms_append, ms_cons, ms_nil, List.cons_append]
    omega)
  obtain ⟨w14, h14, hS14⟩ := Sep.store (cs := [.map (some D.mn), .map (some D.mq), slV D.cs, .int .i64 (M.room : Int), .bool M.down, .bool M.doomed, .int .i64 (M.left : Int)]) (o := 0) (n := 7) (v := .agg #[.map (some m2), .map (some m3), .slice none 0 0, .int .i64 (M.room : Int), .bool false, .bool false, .int .i64 0]) (t := 140) hS13' (by kernel_rfl) rfl (by simp) (by simp [Value.cells, Value.oneCell'])
  refine ⟨w14, h14, fun _ => True, trivial, ?_⟩
  have hcr : M.crash n0 ns = ⟨M.crashed ns 0 nm, MDisk.numbered 0 nm, MDisk.numbered 0 nm, [], M.room, false, false, 0⟩ := by rw [← hnm]; rfl
  let D' : DS := ⟨nfs, m2, m3, l, l, c, c, SV.nil, []⟩
  refine ⟨D', C7 ++ (G2 ++ (wC :: (strM D.mn D.ln D.cn :: strM D.mq D.lk D.ck :: (D.CC ++ D.fs.map fChunk)))), by trivial, ?_, ?_⟩
  · rw [hcr]
    refine ⟨?_, hnr2, hnr3, hnr3, Own.nil _ _, fun c hc => by cases hc⟩
    rw [hnf, h, List.take_of_length_le (by rw [MDisk.crashed_len]; exact Nat.le_refl _)]
  · have : Sep E w14 (dChunk (M.crash n0 ns) d m2 m3 SV.nil :: (strM m3 l c :: strM m2 l c :: (nfs.map fChunk ++ (C7 ++ (G2 ++ (wC :: (strM D.mn D.ln D.cn :: strM D.mq D.lk D.ck :: (D.CC ++ D.fs.map fChunk) ++ L))))))) := hS14
    exact this.weak (by
      intro f
      simp only [D', DS.chunks, ms_append, ms_cons, ms_nil, List.cons_append]
      omega)

end Go.Proofs.Ytonjaaljnjjjcaa
