/- The program's disk: a new one, names kept, how many bytes there are, bytes put behind a file's. Conditions: as each lemma says. -/
import Derived.Test.YtonjaaljnjjjcaaD3
import Derived.Laws.Externs
set_option linter.unusedVariables false
set_option linter.unusedSimpArgs false
namespace Go.Proofs.Ytonjaaljnjjjcaa
open Go Go.RowKit

/-- maps.Clone. -/
theorem k108 {E w : World} {L : List Chunk} {m c : Nat} {l : List (Ent ByteArray)} (hS : Sep E w L) (hm : strM m l c ∈ L) :
    Calls Pr 108 #[.map (some m)] w fun e w' => ∃ m', e = .returned (.map (some m')) ∧ Sep E w' (strM m' l c :: L) := by
  refine call108 ?_
  unfold ir108
  refine ⟨false, ?_, brc_false rfl ⟨.iface 137 (.map (some m)), ?_, ?_⟩⟩
  · unfold At
    have h : ∀ d, (Op.equalIn (d + 1) 137 (.map (some m)) (.map none)).run Pr w = .ok false w := fun d => by
      simp [Op.equalIn, run_underlying u137]
    have h' : (Op.equal 137 (.map (some m)) (.map none)).run Pr w = .ok false w := h 9999
    simp [eqGuard, binOp, h']
  · unfold At
    simp [Instr.makeInterface, run_underlying u137]
  · have hb : w.heap[m]? = some (.map (l.map (Ent.me Value.string)).toArray c) := hS.at_ _ hm
    unfold Does
    rw [run_callFunc_extern (P := Pr) (f := 145) (fn := Try.f145) (e := Extern.MapsClone.clone) Try.func145 (by kernel_rfl) (by kernel_rfl) (by kernel_rfl) (by kernel_rfl)]
    have hrun : (Extern.MapsClone.clone #[.iface 137 (.map (some m))]).run Pr w = .ok (.iface 137 (.map (some w.heap.size))) { w with heap := w.heap.push (.map (l.map (Ent.me Value.string)).toArray c) } := by
      have hc : Extern.MapsClone.clone #[.iface 137 (.map (some m))] = (do
          let .map entries clock ← getObj m | stuck "maps.clone: a map expected"
          pure (.iface 137 (.map (some (← newObj (.map entries clock)))))) := rfl
      rw [hc]
      simp only [Sem.run_bind, run_getObj_map hb, Result.andThen_ok, run_newObj, Sem.run_pure]
    rw [hrun]
    refine ⟨some w.heap.size, ?_, w.heap.size, rfl, hS.push _⟩
    unfold At
    simp [Instr.typeAssert, run_underlying u137]

theorem k25 {E w : World} {L : List Chunk} (hS : Sep E w L) (room : Int) :
    Calls Pr 25 #[.int .i64 room] w fun e w' => ∃ (d : Nat) (D : DS), e = .returned (.pointer (some ⟨d, 0, none⟩)) ∧ DRep D (MDisk.new room) [] ∧ Sep E w' (D.chunks (MDisk.new room) d ++ L) := by
  refine call25 ?_
  unfold ir25
  obtain ⟨m1, w1, h1, hS1⟩ := hS.makeMap (kv := Value.string) 137
  obtain ⟨m2, w2, h2, hS2⟩ := hS1.makeMap (kv := Value.string) 137
  refine ⟨m1, w1, h1, m2, w2, h2, ?_⟩
  have hr : (if 0 > room then 0 else room) = ((room.toNat : Nat) : Int) := by split <;> omega
  rw [hr]
  obtain ⟨d, w3, h3, hS3⟩ := hS2.newVar (t := 140) (v := .agg #[.map (some m1), .map (some m2), .slice none 0 0, .int .i64 ((room.toNat : Nat) : Int), .bool false, .bool false, .int .i64 0])
  refine ⟨_, w3, h3, d, ⟨[], m1, m2, [], [], 0, 0, SV.nil, []⟩, rfl, ?_, ?_⟩
  · have hn : NameRep [] [] [] 0 := ⟨MapWf.nil _, fun k => rfl, fun k i h => by simp [findN] at h, List.Pairwise.nil⟩
    exact ⟨rfl, by simp, hn, hn, Own.nil _ _, by simp [MDisk.new]⟩
  · have hS3' : Sep E w3 (dChunk (MDisk.new room) d m1 m2 SV.nil :: strM m2 [] 0 :: strM m1 [] 0 :: L) := hS3
    exact hS3'.weak (by intro f; simp only [DS.chunks, ms_append, ms_cons, ms_nil, List.map_nil]; omega)

/-- SyncNames. -/
theorem k55 {E w : World} {L I : List Chunk} {M : MDisk} {D : DS} {d : Nat} (hl : M.left ≤ 9223372036854775807) (hS : Sep E w (D.chunks M d ++ L)) (hD : DRep D M I) :
    Calls Pr 55 #[.pointer (some ⟨d, 0, none⟩)] w fun e w' => ∃ (D' : DS) (C : List Chunk), e = .returned (.int .i64 M.syncNames.1) ∧ DRep D' M.syncNames.2 I ∧ Sep E w' (D'.chunks M.syncNames.2 d ++ (C ++ L)) := by
  refine call55 ?_
  unfold ir55
  refine (k91 (L := _) hl hS).mono ?_
  rintro _ w1 ⟨rfl, hS1⟩
  have hS1 : Sep E w1 (D.chunks M.ready.2 d ++ L) := hS1
  have hD1 := hD.ready
  refine ⟨M.ready.1, rfl, brc_intro (fun h => ?_) (fun h => ?_)⟩
  · have h : M.ready.1 ≠ 0 := by simpa using h
    have hf : M.syncNames = M.ready := by simp [MDisk.syncNames, h]
    rw [hf]
    exact ⟨D, [], rfl, hD1, hS1⟩
  have h : M.ready.1 = 0 := by simpa using h
  have hf : M.syncNames = (0, { M.ready.2 with kept := M.ready.2.now, changes := [] }) := by simp [MDisk.syncNames, h]
  rw [hf]
  refine ⟨some D.mn, hS1.load (o := 0) List.mem_cons_self rfl (by kernel_rfl), (k108 hS1 (List.mem_cons_of_mem _ List.mem_cons_self)).mono ?_⟩
  rintro _ w2 ⟨m', rfl, hS2⟩
  refine ⟨some m', rfl, ?_⟩
  have hS2' : Sep E w2 (dChunk M.ready.2 d D.mn D.mq D.cs :: (strM m' D.ln D.cn :: (strM D.mn D.ln D.cn :: strM D.mq D.lk D.ck :: (D.CC ++ D.fs.map fChunk) ++ L))) := hS2.weak (by intro f; simp only [DS.chunks, ms_append, ms_cons, ms_nil]; omega)
  obtain ⟨w3, h3, hS3⟩ := hS2'.store (o := 1) (n := 1) (v := .map (some m')) (t := 137) (by kernel_rfl) rfl (by simp) (by simp [Value.cells, Value.oneCell'])
  refine ⟨w3, h3, ?_⟩
  have hS3' : Sep E w3 (dChunk M.ready.2 d D.mn m' D.cs :: (strM m' D.ln D.cn :: (strM D.mn D.ln D.cn :: strM D.mq D.lk D.ck :: (D.CC ++ D.fs.map fChunk) ++ L))) := hS3
  obtain ⟨w4, h4, hS4⟩ := hS3'.store (o := 2) (n := 1) (v := .slice none 0 0) (t := 138) (by kernel_rfl) rfl (by simp) (by simp [Value.cells, Value.oneCell'])
  refine ⟨w4, h4, { D with mq := m', lk := D.ln, ck := D.cn, cs := SV.nil, CC := [] }, [], rfl, ?_, ?_⟩
  · exact ⟨hD1.files, hD1.bytes, hD1.now, hD1.now, Own.nil _ _, by simp⟩
  · have hS4' : Sep E w4 (dChunk { M.ready.2 with kept := M.ready.2.now, changes := [] } d D.mn m' SV.nil :: (strM m' D.ln D.cn :: (strM D.mn D.ln D.cn :: strM D.mq D.lk D.ck :: (D.CC ++ D.fs.map fChunk) ++ L))) := hS4
    exact hS4'.weak (by intro f; simp only [DS.chunks, ms_append, ms_cons, ms_nil]; omega)

end Go.Proofs.Ytonjaaljnjjjcaa
