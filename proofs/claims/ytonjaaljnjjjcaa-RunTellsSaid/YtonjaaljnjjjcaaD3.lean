/- The program's disk: contracts of what can be done. Conditions: as each lemma says. -/
import Derived.Test.YtonjaaljnjjjcaaD2
set_option linter.unusedVariables false
set_option linter.unusedSimpArgs false
namespace Go.Proofs.Ytonjaaljnjjjcaa
open Go Go.RowKit

theorem ready_left {M : MDisk} (h : M.left ≤ 9223372036854775807) : M.ready.2.left ≤ 9223372036854775807 := by
  unfold MDisk.ready
  split
  · exact h
  · split
    · split
      · exact h
      · show M.left - 1 ≤ _; omega
    · exact h

theorem bs_len {D : DS} {M : MDisk} {L : List Chunk} (h : DRep D M L) : D.bs.length = M.files.length := by
  rw [← h.files]
  simp [DS.bs]

theorem filePtr_push (bs : List Nat) (b i : Nat) (h : i < bs.length) : filePtr (bs ++ [b]) i = filePtr bs i := by
  simp [filePtr, List.getElem?_append_left h]

theorem NameRep.push {bs : List Nat} {nm : Names} {l : List (Ent ByteArray)} {c : Nat} (h : NameRep bs nm l c) (b : Nat) : NameRep (bs ++ [b]) nm l c :=
  ⟨h.wf, fun k => by
    rw [h.get k]
    cases hf : findN k nm with
    | none => rfl
    | some i => simp [filePtr_push bs b i (h.ids k i hf)], fun k i hi => by
    have := h.ids k i hi
    simp; omega, h.sorted⟩

/-- Create. -/
theorem k32 {E w : World} {L I : List Chunk} {M : MDisk} {D : DS} {d : Nat} (hl : M.left ≤ 9223372036854775807) (hc : M.changes.length ≤ 1099511627776) (hS : Sep E w (D.chunks M d ++ L)) (hD : DRep D M I) (n : ByteArray) :
    Calls Pr 32 #[.pointer (some ⟨d, 0, none⟩), .string n] w fun e w' => ∃ (D' : DS) (C : List Chunk), e = .returned (.int .i64 (M.create n).1) ∧ DRep D' (M.create n).2 I ∧ Sep E w' (D'.chunks (M.create n).2 d ++ (C ++ L)) := by
  refine call32 ?_
  unfold ir32
  refine (k91 (L := _) hl hS).mono ?_
  rintro _ w1 ⟨rfl, hS1⟩
  have hS1 : Sep E w1 (D.chunks M.ready.2 d ++ L) := hS1
  have hD1 := hD.ready
  refine ⟨M.ready.1, rfl, brc_intro (fun h => ?_) (fun h => ?_)⟩
  · have h : M.ready.1 ≠ 0 := by simpa using h
    have hf : M.create n = M.ready := by simp [MDisk.create, h]
    rw [hf]
    exact ⟨D, [], rfl, hD1, hS1⟩
  have h : M.ready.1 = 0 := by simpa using h
  refine (k92 w1 n).mono ?_
  rintro _ _ ⟨rfl, rfl⟩
  refine ⟨_, rfl, brc_intro (fun h2 => ?_) (fun h2 => ?_)⟩
  · have h2 : MDisk.right n = false := by simpa using h2
    have hf : M.create n = (1, M.ready.2) := by simp [MDisk.create, h, h2]
    rw [hf]
    exact ⟨D, [], rfl, hD1, hS1⟩
  have h2 : MDisk.right n = true := by simpa using h2
  refine ⟨some D.mn, hS1.load (o := 0) List.mem_cons_self rfl (by kernel_rfl), _, hD1.now.look hS1 (List.mem_cons_of_mem _ List.mem_cons_self) n, ?_⟩
  cases hf : findN n M.ready.2.now with
  | some i =>
    have hf' : M.create n = (4, M.ready.2) := by simp [MDisk.create, h, h2, hf]
    rw [hf']
    have hi := hD1.now.ids n i hf
    refine brc_true ?_ ⟨D, [], rfl, hD1, hS1⟩
    simp [filePtr_some hi]
  | none =>
    have hf' : M.create n = (0, ({ M.ready.2 with files := M.ready.2.files ++ [MFile.mk [] 0] } : MDisk).chg ⟨noName, n, M.ready.2.files.length⟩) := by simp [MDisk.create, h, h2, hf]
    rw [hf']
    refine brc_false rfl ?_
    obtain ⟨b, w2, hb, hS2⟩ := hS1.newVar (t := 146) (v := .agg #[.slice none 0 0, .int .i64 0])
    refine ⟨_, w2, hb, ?_⟩
    have hn : n ≠ noName := by
      intro e
      subst e
      exact absurd h2 (by decide)
    have hbl := bs_len hD1
    let D1 : DS := { D with fs := D.fs ++ [⟨b, SV.nil, ⟨[], 0⟩⟩] }
    have hbs : D1.bs = D.bs ++ [b] := by simp [D1, DS.bs]
    have hD2 : DRep D1 { M.ready.2 with files := M.ready.2.files ++ [MFile.mk [] 0] } I := by
      refine ⟨?_, fun r hr => ?_, by rw [hbs]; exact hD1.now.push b, by rw [hbs]; exact hD1.kept.push b, ?_, ?_⟩
      · simp [D1, hD1.files]
      · rcases List.mem_append.1 hr with hr | hr
        · exact hD1.bytes r hr
        · rw [List.mem_singleton] at hr
          subst hr
          exact RdS.none I 1
      · have : M.ready.2.changes.flatMap (chV D1.bs) = M.ready.2.changes.flatMap (chV D.bs) := by
          unfold List.flatMap
          congr 1
          apply List.map_congr_left
          intro c hcm
          simp only [chV]
          split
          · rfl
          · rename_i hcn
            rw [hbs, filePtr_push _ _ _ (hD1.chOk c hcm hcn)]
        show Own 153 3 D.cs (M.ready.2.changes.flatMap (chV D1.bs)) D.CC
        rw [this]
        exact hD1.own
      · intro c hcm hcn
        have := hD1.chOk c hcm hcn
        rw [hbs]
        simp; omega
    have hx := hD2
    have hS2' : Sep E w2 (D1.chunks { M.ready.2 with files := M.ready.2.files ++ [MFile.mk [] 0] } d ++ L) := by
      refine hS2.weak ?_
      intro f
      simp only [D1, DS.chunks, ms_append, ms_cons, ms_nil, List.map_append, List.map_cons, List.map_nil]
      show _ ≤ f (b, Obj.cells #[Value.slice none 0 0, Value.int .i64 0] 146 (0, 0)) + _
      have e : fChunk ⟨b, SV.nil, ⟨[], 0⟩⟩ = (b, Obj.cells #[Value.slice none 0 0, Value.int .i64 0] 146 (0, 0)) := rfl
      rw [e]
      have e2 : dChunk { M.ready.2 with files := M.ready.2.files ++ [MFile.mk [] 0] } d D.mn D.mq D.cs = dChunk M.ready.2 d D.mn D.mq D.cs := rfl
      rw [e2]
      omega
    have hst := ready_same M
    have hk := k93 (x := ⟨noName, n, M.ready.2.files.length⟩) hS2' hD2 (fun _ => by rw [hbs]; simp; omega) (by rw [hst.2.2.2.1]; exact hc)
    have hp : (if n = noName then none else filePtr D1.bs M.ready.2.files.length) = some ⟨b, 0, none⟩ := by
      rw [if_neg hn, hbs]
      simp [filePtr, ← hbl]
    simp only [hp] at hk
    refine hk.mono ?_
    rintro _ w3 ⟨D', C, rfl, hD3, hS3⟩
    exact ⟨rfl, D', C, rfl, hD3, hS3⟩

/-- Remove. -/
theorem k86 {E w : World} {L I : List Chunk} {M : MDisk} {D : DS} {d : Nat} (hl : M.left ≤ 9223372036854775807) (hc : M.changes.length ≤ 1099511627776) (hS : Sep E w (D.chunks M d ++ L)) (hD : DRep D M I) (n : ByteArray) :
    Calls Pr 86 #[.pointer (some ⟨d, 0, none⟩), .string n] w fun e w' => ∃ (D' : DS) (C : List Chunk), e = .returned (.int .i64 (M.remove n).1) ∧ DRep D' (M.remove n).2 I ∧ Sep E w' (D'.chunks (M.remove n).2 d ++ (C ++ L)) := by
  refine call86 ?_
  unfold ir86
  refine (k87 hl hS hD n).mono ?_
  rintro _ w1 ⟨rfl, hS1⟩
  have hD1 := hD.ready
  have hst := ready_same M
  refine ⟨_, _, rfl, ?_⟩
  unfold MDisk.remove
  rcases find_cases M n with ⟨e, he, hf⟩ | ⟨i, hf, hi⟩
  · rw [hf]
    exact brc_true (by simpa using he) ⟨D, [], rfl, hD1, hS1⟩
  · rw [hf]
    refine brc_false rfl ?_
    have hk := k93 (x := ⟨n, noName, 0⟩) hS1 hD1 (fun h => absurd rfl h) (by rw [hst.2.2.2.1]; exact hc)
    refine Calls.mono (R := _) hk ?_
    rintro _ w3 ⟨D', C, rfl, hD3, hS3⟩
    exact ⟨rfl, D', C, rfl, hD3, hS3⟩

/-- Rename. -/
theorem k85 {E w : World} {L I : List Chunk} {M : MDisk} {D : DS} {d : Nat} (hl : M.left ≤ 9223372036854775807) (hc : M.changes.length ≤ 1099511627776) (hS : Sep E w (D.chunks M d ++ L)) (hD : DRep D M I) (n m : ByteArray) :
    Calls Pr 85 #[.pointer (some ⟨d, 0, none⟩), .string n, .string m] w fun e w' => ∃ (D' : DS) (C : List Chunk), e = .returned (.int .i64 (M.rename n m).1) ∧ DRep D' (M.rename n m).2 I ∧ Sep E w' (D'.chunks (M.rename n m).2 d ++ (C ++ L)) := by
  refine call85 ?_
  unfold ir85
  refine (k87 hl hS hD n).mono ?_
  rintro _ w1 ⟨rfl, hS1⟩
  have hD1 := hD.ready
  have hst := ready_same M
  refine ⟨_, _, rfl, ?_⟩
  unfold MDisk.rename
  rcases find_cases M n with ⟨e, he, hf⟩ | ⟨i, hf, hi⟩
  · rw [hf]
    exact brc_true (by simpa using he) ⟨D, [], rfl, hD1, hS1⟩
  · rw [hf]
    refine brc_false rfl ?_
    refine (k92 w1 m).mono ?_
    rintro _ _ ⟨rfl, rfl⟩
    have hil := hD1.now.ids n i hi
    refine ⟨_, rfl, brc_intro (fun h2 => ?_) (fun h2 => ?_)⟩
    · have h2 : MDisk.right m = false := by simpa using h2
      simp only [h2, if_true]
      exact ⟨D, [], by trivial, hD1, hS1⟩
    · have h2 : MDisk.right m = true := by simpa using h2
      have hm : m ≠ noName := by
        intro e
        subst e
        exact absurd h2 (by decide)
      simp only [h2, Bool.true_eq_false, if_false]
      have hk := k93 (x := ⟨n, m, i⟩) hS1 hD1 (fun _ => hil) (by rw [hst.2.2.2.1]; exact hc)
      simp only [if_neg hm] at hk
      refine Calls.mono (R := _) hk ?_
      rintro _ w3 ⟨D', C, rfl, hD3, hS3⟩
      exact ⟨rfl, D', C, by trivial, hD3, hS3⟩

theorem split_at {α : Type} {l : List α} {i : Nat} (h : i < l.length) : ∃ A x B, l = A ++ x :: B ∧ A.length = i ∧ l[i]? = some x :=
  ⟨l.take i, l[i], l.drop (i + 1), by rw [← List.drop_eq_getElem_cons h, List.take_append_drop], by simp; omega, by simp [h]⟩
theorem modify_mid {α : Type} (A B : List α) (x : α) (g : α → α) : (A ++ x :: B).modify A.length g = A ++ g x :: B := by
  induction A with
  | nil => rfl
  | cons a A ih => simp [ih]

/-- A file's record, and what else there is. -/
theorem DRep.file {D : DS} {M : MDisk} {I : List Chunk} (hD : DRep D M I) {i : Nat} (hi : i < D.bs.length) : ∃ A r B, D.fs = A ++ r :: B ∧ A.length = i ∧ filePtr D.bs i = some ⟨r.b, 0, none⟩ ∧ M.fileAt i = r.f ∧ r ∈ D.fs := by
  have hi' : i < D.fs.length := by simpa [DS.bs] using hi
  obtain ⟨A, r, B, h1, h2, h3⟩ := split_at hi'
  refine ⟨A, r, B, h1, h2, ?_, ?_, by rw [h1]; simp⟩
  · simp [filePtr, DS.bs, h3]
  · unfold MDisk.fileAt
    rw [← hD.files]
    simp [h3]

/-- A file's bytes, or how many are kept, turn. -/
theorem DRep.turn {D : DS} {M : MDisk} {L : List Chunk} (hD : DRep D M L) {A B : List FRec} {r : FRec} (hfs : D.fs = A ++ r :: B) {s : SV} (g : MFile → MFile) (hr : RdB L s (g r.f).bytes) :
    DRep { D with fs := A ++ ⟨r.b, s, g r.f⟩ :: B } (M.setFile A.length g) L := by
  have hbs : DS.bs { D with fs := A ++ ⟨r.b, s, g r.f⟩ :: B } = D.bs := by simp [DS.bs, hfs]
  refine ⟨?_, fun x hx => ?_, by rw [hbs]; exact hD.now, by rw [hbs]; exact hD.kept, by rw [hbs]; exact hD.own, by rw [hbs]; exact hD.chOk⟩
  · have := hD.files
    rw [hfs] at this
    show (A ++ ⟨r.b, s, g r.f⟩ :: B).map (·.f) = M.files.modify A.length g
    rw [← this, List.map_append, List.map_append, List.map_cons, List.map_cons]
    have hl : A.length = (A.map (·.f)).length := by simp
    rw [hl, modify_mid]
  · simp only [List.mem_append, List.mem_cons] at hx
    rcases hx with hx | rfl | hx
    · exact hD.bytes x (by rw [hfs]; simp [hx])
    · exact hr
    · exact hD.bytes x (by rw [hfs]; simp [hx])

theorem dChunk_set (M : MDisk) (i : Nat) (g : MFile → MFile) (d mn mk : Nat) (cs : SV) : dChunk (M.setFile i g) d mn mk cs = dChunk M d mn mk cs := rfl

/-- Sync. -/
theorem k57 {E w : World} {L I : List Chunk} {M : MDisk} {D : DS} {d : Nat} (hl : M.left ≤ 9223372036854775807) (hS : Sep E w (D.chunks M d ++ L)) (hD : DRep D M I) (n : ByteArray) :
    Calls Pr 57 #[.pointer (some ⟨d, 0, none⟩), .string n] w fun e w' => ∃ (D' : DS), e = .returned (.int .i64 (M.sync n).1) ∧ DRep D' (M.sync n).2 I ∧ Sep E w' (D'.chunks (M.sync n).2 d ++ L) := by
  refine call57 ?_
  unfold ir57
  refine (k87 hl hS hD n).mono ?_
  rintro _ w1 ⟨rfl, hS1⟩
  have hD1 := hD.ready
  refine ⟨_, _, rfl, ?_⟩
  unfold MDisk.sync
  rcases find_cases M n with ⟨e, he, hf⟩ | ⟨i, hf, hi⟩
  · rw [hf]
    exact brc_true (by simpa using he) ⟨D, rfl, hD1, hS1⟩
  · rw [hf]
    refine brc_false rfl ?_
    obtain ⟨A, r, B, hfs, hA, hp, hfa, hr⟩ := hD1.file (hD1.now.ids n i hi)
    simp only [Option.bind_some, hp]
    have hS2 : Sep E w1 (fChunk r :: (dChunk M.ready.2 d D.mn D.mq D.cs :: strM D.mn D.ln D.cn :: strM D.mq D.lk D.ck :: (D.CC ++ (A.map fChunk ++ B.map fChunk)) ++ L)) := by
      refine hS1.weak ?_
      intro f
      simp only [DS.chunks, hfs, ms_append, ms_cons, ms_nil, List.map_append, List.map_cons, List.map_nil]
      omega
    have hsz := (hD1.bytes r hr).size
    refine ⟨r.s, hS2.load (o := 0) List.mem_cons_self rfl (by kernel_rfl), ?_⟩
    obtain ⟨w2, h2, hS3⟩ := hS2.store (o := 1) (n := 1) (v := .int .i64 ((r.s.len : Nat) : Int)) (t := 3) (by kernel_rfl) rfl (by simp) (by simp [Value.cells, Value.oneCell'])
    refine ⟨w2, h2, _, by trivial, hA ▸ hD1.turn hfs (s := r.s) (fun f => ⟨f.bytes, f.bytes.length⟩) (hD1.bytes r hr), ?_⟩
    rw [hsz] at hS3
    have hS3' : Sep E w2 (fChunk ⟨r.b, r.s, ⟨r.f.bytes, r.f.bytes.length⟩⟩ :: (dChunk M.ready.2 d D.mn D.mq D.cs :: strM D.mn D.ln D.cn :: strM D.mq D.lk D.ck :: (D.CC ++ (A.map fChunk ++ B.map fChunk)) ++ L)) := hS3
    refine hS3'.weak ?_
    intro f
    simp only [DS.chunks, dChunk_set, ms_append, ms_cons, ms_nil, List.map_append, List.map_cons, List.map_nil]
    omega

/-- Read. -/
theorem k28 {E w : World} {L I : List Chunk} {M : MDisk} {D : DS} {d : Nat} (hl : M.left ≤ 9223372036854775807) (hS : Sep E w (D.chunks M d ++ L)) (hD : DRep D M I) (hI : ∀ c ∈ I, c ∈ L) (n : ByteArray) (hb : ∀ f ∈ M.files, f.bytes.length ≤ 1099511627776) :
    Calls Pr 28 #[.pointer (some ⟨d, 0, none⟩), .string n] w fun e w' => ∃ (s : SV) (C : List Chunk), e = .returned (.tuple #[.slice s.a s.len s.cap, .int .i64 (M.read n).1]) ∧ RdB C s (M.read n).2.1 ∧ (M.read n).2.2 = M.ready.2 ∧ DRep D (M.read n).2.2 I ∧ Sep E w' (D.chunks (M.read n).2.2 d ++ (C ++ L)) := by
  refine call28 ?_
  unfold ir28
  refine (k87 hl hS hD n).mono ?_
  rintro _ w1 ⟨rfl, hS1⟩
  have hD1 := hD.ready
  have hst := ready_same M
  refine ⟨_, _, rfl, ?_⟩
  unfold MDisk.read
  rcases find_cases M n with ⟨e, he, hf⟩ | ⟨i, hf, hi⟩
  · rw [hf]
    exact brc_true (by simpa using he) ⟨SV.nil, [], rfl, RdS.none _ _, rfl, hD1, hS1⟩
  · rw [hf]
    refine brc_false rfl ?_
    obtain ⟨A, r, B, hfs, hA, hp, hfa, hr⟩ := hD1.file (hD1.now.ids n i hi)
    simp only [Option.bind_some, hp, hfa]
    have hm : fChunk r ∈ D.chunks M.ready.2 d ++ L := by simp [DS.chunks, hfs]
    refine ⟨r.s, hS1.load (o := 0) hm rfl (by kernel_rfl), ?_⟩
    have hbr : r.f.bytes.length ≤ 1099511627776 := by
      refine hb r.f ?_
      rw [← hst.1, ← hD1.files]
      exact List.mem_map.2 ⟨r, hr, rfl⟩
    refine (k88 hS1 (((hD1.bytes r hr).mono hI).right _) hbr).mono ?_
    rintro _ w2 ⟨s2, C, rfl, ho, hS2⟩
    exact ⟨s2, rfl, s2, C, by trivial, ho.rds, by trivial, hD1, hS2.weak (by intro f; simp only [ms_append, ms_cons, ms_nil]; omega)⟩

end Go.Proofs.Ytonjaaljnjjjcaa
