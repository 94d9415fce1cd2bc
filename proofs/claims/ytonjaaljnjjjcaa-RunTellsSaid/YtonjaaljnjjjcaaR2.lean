/- Runs: Start, Add, End, Many, and the reader of none. Conditions: as each lemma says. -/
import Derived.Test.YtonjaaljnjjjcaaR1
set_option linter.unusedVariables false
set_option linter.unusedSimpArgs false
namespace Go.Proofs.Ytonjaaljnjjjcaa
open Go Go.RowKit

def wChunk (b d : Nat) (s : SV) (any : Bool) (many : Nat) : Chunk := (b, .cells [.pointer (some ⟨d, 0, none⟩), slV s, .bool any, .int .i64 ((many : Nat) : Int)].toArray 134 (0, 0))

def StartPost (E : World) (L I : List Chunk) (M : MDisk) (d : Nat) (e : Ending) (w' : World) : Prop := ∃ (D' : DS) (C : List Chunk), DRep D' (startM M).2 I ∧
      (((startM M).1 ≠ 0 ∧ e = .returned (.tuple #[.pointer none, .int .i64 (startM M).1]) ∧ Sep E w' (D'.chunks (startM M).2 d ++ (C ++ L))) ∨
       ((startM M).1 = 0 ∧ ∃ b, e = .returned (.tuple #[.pointer (some ⟨b, 0, none⟩), .int .i64 0]) ∧ Sep E w' (wChunk b d SV.nil false 0 :: (D'.chunks (startM M).2 d ++ (C ++ L)))))

/-- Start. -/
theorem k27 {E w : World} {L I : List Chunk} {M : MDisk} {D : DS} {d : Nat} (hf : M.Fit 549755813887) (hS : Sep E w (D.chunks M d ++ L)) (hD : DRep D M I) :
    Calls Pr 27 #[.pointer (some ⟨d, 0, none⟩)] w (StartPost E L I M d) := by
  refine call27 ?_
  unfold ir27
  have hf1 := hf.changes
  have tail : ∀ w1 (D1 : DS) (C1 : List Chunk), startM M = (M.remove way).2.create way → Sep E w1 (D1.chunks (M.remove way).2 d ++ (C1 ++ L)) → DRep D1 (M.remove way).2 I →
      Calls Pr 32 #[(.pointer (some ⟨d, 0, none⟩)), (.string (⟨#[116, 109, 112]⟩ : ByteArray))] w1 fun e3 w4 =>
          ∃ (n3 : Int),
          e3 = .returned (.int .i64 n3) ∧
          brc (n3 != (0 : Int))
            (StartPost E L I M d (.returned (.tuple #[(.pointer none), (.int .i64 n3)])) w4)
            (∃ (a2 : Addr) (w5 : World),
              Sem.run Pr (Instr.box 134 (.agg #[(.pointer (some ⟨d, 0, none⟩)), (.slice none 0 0), (.bool false), (.int .i64 0)])) w4 = .ok (.pointer (some a2)) w5 ∧
              StartPost E L I M d (.returned (.tuple #[(.pointer (some a2)), (.int .i64 0)])) w5) := by
    intro w1 D1 C1 hst hS1 hD1
    have hfr := hf.remove way
    refine (k32 hfr.left (Nat.le_trans hfr.changes (by omega)) hS1 hD1 way).mono ?_
    rintro _ w4 ⟨D2, C2, rfl, hD2, hS2⟩
    refine ⟨_, rfl, ?_⟩
    unfold StartPost
    rw [hst]
    refine brc_intro (fun h => ?_) (fun h => ?_)
    · have h : ((M.remove way).2.create way).1 ≠ 0 := by simpa using h
      exact ⟨D2, C2 ++ C1, hD2, .inl ⟨h, rfl, by rw [List.append_assoc]; exact hS2⟩⟩
    · have h : ((M.remove way).2.create way).1 = 0 := by simpa using h
      obtain ⟨b, w5, h5, hS5⟩ := hS2.newVar (t := 134) (v := .agg #[(.pointer (some ⟨d, 0, none⟩)), (.slice none 0 0), (.bool false), (.int .i64 0)])
      exact ⟨_, w5, h5, D2, C2 ++ C1, hD2, .inr ⟨h, b, rfl, by rw [List.append_assoc]; exact hS5⟩⟩
  refine (k86 hf.left (Nat.le_trans hf.changes (by omega)) hS hD way).mono ?_
  rintro _ w1 ⟨D1, C1, rfl, hD1, hS1⟩
  refine ⟨_, rfl, brc_intro (fun h => ?_) (fun h => ?_)⟩
  · have h : (M.remove way).1 ≠ 0 := by simpa using h
    refine brc_intro (fun h2 => ?_) (fun h2 => ?_)
    · have h2 : (M.remove way).1 ≠ 2 := by simpa using h2
      have hst : startM M = M.remove way := by simp [startM, h, h2]
      unfold StartPost
      rw [hst]
      exact ⟨D1, C1, hD1, .inl ⟨h, rfl, hS1⟩⟩
    · have h2 : (M.remove way).1 = 2 := by simpa using h2
      exact tail w1 D1 C1 (by simp [startM, h2]) hS1 hD1
  · have h : (M.remove way).1 = 0 := by simpa using h
    exact tail w1 D1 C1 (by simp [startM, h]) hS1 hD1

def addM (M : MDisk) (o : Option (List UInt8)) (x : List UInt8) : Int × MDisk × Option (List UInt8) :=
  if x.length > 64 then (3, M, o)
  else if rises o x = false then (130, M, o)
  else if (M.append way (frameL x)).1 = 0 then (0, (M.append way (frameL x)).2, some x) else ((M.append way (frameL x)).1, (M.append way (frameL x)).2, o)

theorem OrdRep.mono {L L' : List Chunk} {s : SV} {any : Bool} {o : Option (List UInt8)} (h : OrdRep L s any o) (hL : ∀ c ∈ L, c ∈ L') : OrdRep L' s any o := ⟨h.1, fun l hl => (h.2 l hl).mono hL⟩

theorem OrdRep.right {L : List Chunk} {s : SV} {any : Bool} {o : Option (List UInt8)} (h : OrdRep L s any o) (C : List Chunk) : OrdRep (C ++ L) s any o := h.mono fun c hc => List.mem_append_right _ hc

theorem z128 : (Pr.info? 128).bind (·.zero) = some (.agg #[.slice none 0 0, .bool false]) := by kernel_rfl

/-- Add. -/
theorem k22 {E w : World} {L I : List Chunk} {M : MDisk} {D : DS} {b d : Nat} {s x : SV} {any : Bool} {many : Nat} {o : Option (List UInt8)} {m : List UInt8} (hf : M.Fit 549755813000) (hS : Sep E w (wChunk b d s any many :: (D.chunks M d ++ L))) (hD : DRep D M I) (hI : ∀ c ∈ I, c ∈ L) (ho : OrdRep I s any o) (hx : RdB L x m) (hm : m.length ≤ 1099511627776) (hmany : many < 4611686018427387904) :
    Calls Pr 22 #[.pointer (some ⟨b, 0, none⟩), .slice x.a x.len x.cap] w fun e w' => ∃ (D' : DS) (C : List Chunk) (s' : SV) (any' : Bool), e = .returned (.int .i64 (addM M o m).1) ∧ DRep D' (addM M o m).2.1 (C ++ I) ∧ OrdRep (C ++ I) s' any' (addM M o m).2.2 ∧ Sep E w' (wChunk b d s' any' (if (addM M o m).1 = 0 then many + 1 else many) :: (D'.chunks (addM M o m).2.1 d ++ (C ++ L))) := by
  refine call22 ?_
  unfold ir22
  have hsz := hx.size
  refine brc_false rfl (brc_intro (fun h => ?_) (fun h => ?_))
  · have h : m.length > 64 := by simp at h; omega
    have ha : addM M o m = (3, M, o) := by simp [addM, h]
    rw [ha]
    exact ⟨D, [], s, any, rfl, hD, ho, hS⟩
  have hlen : ¬ m.length > 64 := by simp at h; omega
  refine ⟨s, any, hS.loadS (o := 1) (n := 2) List.mem_cons_self (by kernel_rfl) (by kernel_rfl) rfl (by simp), ?_⟩
  obtain ⟨g, w1, h1, hS1⟩ := hS.alloc (t := 128) z128
  refine ⟨_, w1, h1, ?_⟩
  obtain ⟨w2, h2, hS2⟩ := hS1.store (o := 0) (n := 2) (v := .agg #[slV s, .bool any]) (t := 128) (by kernel_rfl) rfl (by simp) (by simp [Value.cells, Value.oneCell'])
  refine ⟨w2, h2, ?_⟩
  have hS2' : Sep E w2 ((b, .cells [.pointer (some ⟨d, 0, none⟩), slV s, .bool any, .int .i64 ((many : Nat) : Int)].toArray 134 (0, 0)) :: ((g, .cells [slV s, .bool any].toArray 128 (0, 0)) :: (D.chunks M d ++ L))) := (show Sep E w2 ((g, .cells [slV s, .bool any].toArray 128 (0, 0)) :: wChunk b d s any many :: (D.chunks M d ++ L)) from hS2).weak (by intro f; simp only [wChunk, ms_append, ms_cons, ms_nil]; omega)
  refine (k83 hS2' (ho.mono fun c hc => by simp [hI c hc]) (hx.mono fun c hc => by simp [hc]) hm).mono ?_
  rintro _ w3 ⟨s', any', C, rfl, ho', hS3⟩
  refine ⟨_, rfl, brc_intro (fun hr => ?_) (fun hr => ?_)⟩
  · have hr : rises o m = false := by simpa using hr
    have ha : addM M o m = (130, M, o) := by simp [addM, hlen, hr]
    rcases ho' with ⟨h', _⟩ | ⟨_, rfl, rfl⟩
    · rw [hr] at h'; cases h'
    rw [ha]
    refine ⟨D, (g, .cells [slV s', .bool any'].toArray 128 (0, 0)) :: C, s', any', rfl, hD.right _, ho.right _, ?_⟩
    have hS3' : Sep E w3 (wChunk b d s' any' many :: (C ++ ((g, .cells [slV s', .bool any'].toArray 128 (0, 0)) :: (D.chunks M d ++ L)))) := hS3
    exact hS3'.weak (by intro f; simp only [ms_append, ms_cons, ms_nil]; simp; omega)
  · have hr : rises o m = true := by simpa using hr
    have hrs : any' = true ∧ RdB C s' m := by
      rcases ho' with ⟨_, h1, h2⟩ | ⟨h', _⟩
      · exact ⟨h1, h2⟩
      · rw [hr] at h'; cases h'
    obtain ⟨rfl, hrs⟩ := hrs
    refine (k84 (s := SV.nil) (l := []) hS3 (RdS.none _ _) (hx.mono fun c hc => by simp [hc]) (by simp) (by omega)).mono ?_
    rintro _ w4 ⟨s2, C2, rfl, hr2, hS4⟩
    refine ⟨s2, 0, rfl, brc_true rfl ?_⟩
    have hS4' : Sep E w4 (D.chunks M d ++ (C2 ++ (wChunk b d s' true many :: (C ++ ((g, .cells [slV s, .bool any].toArray 128 (0, 0)) :: L))))) := (show Sep E w4 (C2 ++ (wChunk b d s' true many :: (C ++ ((g, .cells [slV s, .bool any].toArray 128 (0, 0)) :: (D.chunks M d ++ L))))) from hS4).weak (by intro f; simp only [ms_append, ms_cons, ms_nil]; omega)
    refine ⟨some ⟨d, 0, none⟩, hS4'.load (b := b) (o := 0) (cs := [.pointer (some ⟨d, 0, none⟩), slV s', .bool true, .int .i64 ((many : Nat) : Int)].toArray) (T := 134) (fr := (0, 0)) (by simp [wChunk]) rfl (by kernel_rfl), ?_⟩
    have hfl : (frameL m).length ≤ 72 := by rw [frameL_len]; omega
    have e0 : [] ++ frameL m = frameL m := rfl
    rw [e0] at hr2
    refine (k33 hf.left hS4' hD (by have := hf.total; omega) (by have := hf.changes; omega) (fun c hc => by simp [hI c hc]) way (hr2.left _) (by omega)).mono ?_
    rintro _ w5 ⟨D', C5, rfl, hD5, hS5⟩
    refine ⟨_, rfl, brc_intro (fun h2 => ?_) (fun h2 => ?_)⟩
    · have h2 : (M.append way (frameL m)).1 ≠ 0 := by simpa using h2
      have ha : addM M o m = ((M.append way (frameL m)).1, (M.append way (frameL m)).2, o) := by simp [addM, hlen, hr, h2]
      refine ⟨s, any, hS5.loadS (b := g) (o := 0) (n := 2) (cs := [slV s, .bool any].toArray) (T := 128) (fr := (0, 0)) (by simp) (by kernel_rfl) (by kernel_rfl) rfl (by simp), ?_⟩
      have hS5' : Sep E w5 ((b, .cells [.pointer (some ⟨d, 0, none⟩), slV s', .bool true, .int .i64 ((many : Nat) : Int)].toArray 134 (0, 0)) :: (D'.chunks (M.append way (frameL m)).2 d ++ (C5 ++ (C2 ++ (C ++ ((g, .cells [slV s, .bool any].toArray 128 (0, 0)) :: L)))))) := hS5.weak (by intro f; simp only [wChunk, ms_append, ms_cons, ms_nil]; omega)
      obtain ⟨w6, h6, hS6⟩ := hS5'.store (o := 1) (n := 2) (v := .agg #[slV s, .bool any]) (t := 128) (by kernel_rfl) rfl (by simp) (by simp [Value.cells, Value.oneCell'])
      refine ⟨w6, h6, ?_⟩
      have hS6' : Sep E w6 (wChunk b d s any many :: (D'.chunks (M.append way (frameL m)).2 d ++ (C5 ++ (C2 ++ (C ++ ((g, .cells [slV s, .bool any].toArray 128 (0, 0)) :: L)))))) := hS6
      rw [ha]
      refine ⟨D', C5 ++ (C2 ++ (C ++ [(g, .cells [slV s, .bool any].toArray 128 (0, 0))])), s, any, rfl, hD5.mono fun c hc => ?_, ho.right _, ?_⟩
      · rcases List.mem_append.1 hc with hc | hc <;> simp [hc]
      · simp only [h2, if_false]
        exact hS6'.weak (by intro f; simp only [ms_append, ms_cons, ms_nil]; omega)
    · have h2 : (M.append way (frameL m)).1 = 0 := by simpa using h2
      have ha : addM M o m = (0, (M.append way (frameL m)).2, some m) := by simp [addM, hlen, hr, h2]
      refine ⟨(many : Int), hS5.load (b := b) (o := 3) (cs := [.pointer (some ⟨d, 0, none⟩), slV s', .bool true, .int .i64 ((many : Nat) : Int)].toArray) (T := 134) (fr := (0, 0)) (by simp [wChunk]) rfl (by kernel_rfl), ?_⟩
      have hS5' : Sep E w5 ((b, .cells [.pointer (some ⟨d, 0, none⟩), slV s', .bool true, .int .i64 ((many : Nat) : Int)].toArray 134 (0, 0)) :: (D'.chunks (M.append way (frameL m)).2 d ++ (C5 ++ (C2 ++ (C ++ ((g, .cells [slV s, .bool any].toArray 128 (0, 0)) :: L)))))) := hS5.weak (by intro f; simp only [wChunk, ms_append, ms_cons, ms_nil]; omega)
      have hw : IntKind.wrap .i64 (((many : Nat) : Int) + 1) = ((many + 1 : Nat) : Int) := by rw [w64 (by omega) (by omega)]; omega
      rw [hw]
      obtain ⟨w6, h6, hS6⟩ := hS5'.store (o := 3) (n := 1) (v := .int .i64 ((many + 1 : Nat) : Int)) (t := 3) (by kernel_rfl) rfl (by simp) (by simp [Value.cells, Value.oneCell'])
      have hS6' : Sep E w6 (wChunk b d s' true (many + 1) :: (D'.chunks (M.append way (frameL m)).2 d ++ (C5 ++ (C2 ++ (C ++ ((g, .cells [slV s, .bool any].toArray 128 (0, 0)) :: L)))))) := hS6
      refine ⟨w6, h6, ?_⟩
      rw [ha]
      refine ⟨D', C5 ++ (C2 ++ (C ++ [(g, .cells [slV s, .bool any].toArray 128 (0, 0))])), s', true, rfl, hD5.mono fun c hc => ?_, ⟨rfl, fun l hl => ?_⟩, ?_⟩
      · rcases List.mem_append.1 hc with hc | hc <;> simp [hc]
      · simp only [Option.some.injEq] at hl
        subst hl
        exact hrs.mono fun c hc => by simp [hc]
      · simp only [if_true]
        exact hS6'.weak (by intro f; simp only [ms_append, ms_cons, ms_nil]; omega)

def endM (M : MDisk) (n : ByteArray) : Int × MDisk :=
  if n = way ∨ n = noName ∨ n.size > 32 then (1, M)
  else if (M.sync way).1 ≠ 0 then M.sync way
  else if ((M.sync way).2.rename way n).1 ≠ 0 then (M.sync way).2.rename way n
  else ((M.sync way).2.rename way n).2.syncNames

theorem ba_eq' (a b : ByteArray) : (ByteArray.toList a == ByteArray.toList b) = decide (a = b) := ba_eq_toList a b

/-- End. -/
theorem k23 {E w : World} {L I : List Chunk} {M : MDisk} {D : DS} {b d : Nat} {s : SV} {any : Bool} {many : Nat} (hf : M.Fit 549755813000) (hS : Sep E w (wChunk b d s any many :: (D.chunks M d ++ L))) (hD : DRep D M I) (n : ByteArray) :
    Calls Pr 23 #[.pointer (some ⟨b, 0, none⟩), .string n] w fun e w' => ∃ (D' : DS) (C : List Chunk), e = .returned (.int .i64 (endM M n).1) ∧ DRep D' (endM M n).2 I ∧ Sep E w' (wChunk b d s any many :: (D'.chunks (endM M n).2 d ++ (C ++ L))) := by
  refine call23 ?_
  unfold ir23
  rw [ba_eq', ba_eq']
  refine brc_false rfl (brc_intro (fun h => ?_) (fun h1 => ?_))
  · have h : n = way := of_decide_eq_true h
    have ha : endM M n = (1, M) := by simp [endM, h]
    rw [ha]
    exact ⟨D, [], rfl, hD, hS⟩
  have h1 : n ≠ way := of_decide_eq_false h1
  refine brc_intro (fun h => ?_) (fun h2 => ?_)
  · have h : n = noName := of_decide_eq_true h
    have ha : endM M n = (1, M) := by simp [endM, h]
    rw [ha]
    exact ⟨D, [], rfl, hD, hS⟩
  have h2 : n ≠ noName := of_decide_eq_false h2
  refine brc_intro (fun h => ?_) (fun h3 => ?_)
  · have h : n.size > 32 := by simp at h; omega
    have ha : endM M n = (1, M) := by simp [endM, h]
    rw [ha]
    exact ⟨D, [], rfl, hD, hS⟩
  have h3 : ¬ n.size > 32 := by simp at h3; omega
  refine ⟨some ⟨d, 0, none⟩, hS.load (o := 0) List.mem_cons_self rfl (by kernel_rfl), ?_⟩
  have hS0 : Sep E w (D.chunks M d ++ (wChunk b d s any many :: L)) := hS.weak (by intro f; simp only [ms_append, ms_cons, ms_nil]; omega)
  refine (k57 hf.left hS0 hD way).mono ?_
  rintro _ w1 ⟨D1, rfl, hD1, hS1⟩
  have hf1 := hf.sync way
  refine ⟨_, rfl, brc_intro (fun h => ?_) (fun h => ?_)⟩
  · have h : (M.sync way).1 ≠ 0 := by simpa using h
    have ha : endM M n = M.sync way := by simp [endM, h1, h2, h3, h]
    rw [ha]
    exact ⟨D1, [], rfl, hD1, hS1.weak (by intro f; simp only [ms_append, ms_cons, ms_nil]; omega)⟩
  have h4 : (M.sync way).1 = 0 := by simpa using h
  refine ⟨some ⟨d, 0, none⟩, hS1.load (b := b) (o := 0) (cs := [.pointer (some ⟨d, 0, none⟩), slV s, .bool any, .int .i64 ((many : Nat) : Int)].toArray) (T := 134) (fr := (0, 0)) (by simp [wChunk]) rfl (by kernel_rfl), ?_⟩
  refine (k85 hf1.left (Nat.le_trans hf1.changes (by omega)) hS1 hD1 way n).mono ?_
  rintro _ w2 ⟨D2, C2, rfl, hD2, hS2⟩
  have hf2 := hf1.rename way n
  refine ⟨_, rfl, brc_intro (fun h => ?_) (fun h => ?_)⟩
  · have h : ((M.sync way).2.rename way n).1 ≠ 0 := by simpa using h
    have ha : endM M n = (M.sync way).2.rename way n := by simp [endM, h1, h2, h3, h4, h]
    rw [ha]
    exact ⟨D2, C2, rfl, hD2, hS2.weak (by intro f; simp only [ms_append, ms_cons, ms_nil]; omega)⟩
  have h5 : ((M.sync way).2.rename way n).1 = 0 := by simpa using h
  refine ⟨some ⟨d, 0, none⟩, hS2.load (b := b) (o := 0) (cs := [.pointer (some ⟨d, 0, none⟩), slV s, .bool any, .int .i64 ((many : Nat) : Int)].toArray) (T := 134) (fr := (0, 0)) (by simp [wChunk]) rfl (by kernel_rfl), ?_⟩
  refine (k55 hf2.left hS2 hD2).mono ?_
  rintro _ w3 ⟨D3, C3, rfl, hD3, hS3⟩
  have ha : endM M n = ((M.sync way).2.rename way n).2.syncNames := by simp [endM, h1, h2, h3, h4, h5]
  refine ⟨_, rfl, ?_⟩
  rw [ha]
  exact ⟨D3, C3 ++ C2, rfl, hD3, hS3.weak (by intro f; simp only [ms_append, ms_cons, ms_nil]; omega)⟩

theorem k24 {E w : World} {L : List Chunk} {b d : Nat} {s : SV} {any : Bool} {many : Nat} (hS : Sep E w L) (hb : wChunk b d s any many ∈ L) :
    Calls Pr 24 #[.pointer (some ⟨b, 0, none⟩)] w fun e w' => e = .returned (.int .i64 ((many : Nat) : Int)) ∧ w' = w := by
  refine call24 ?_
  unfold ir24
  exact brc_false rfl ⟨_, hS.load (o := 3) hb rfl (by kernel_rfl), rfl, rfl⟩

end Go.Proofs.Ytonjaaljnjjjcaa
