/- Runs: RunNil. Conditions: as each lemma says. -/
import Derived.Test.YtonjaaljnjjjcaaR3
set_option linter.unusedVariables false
set_option linter.unusedSimpArgs false
namespace Go.Proofs.Ytonjaaljnjjjcaa
open Go Go.RowKit

theorem beq_refl_toList (a : ByteArray) : (ByteArray.toList a == ByteArray.toList a) = true := by
  rw [ba_eq_toList]
  exact decide_eq_true rfl

/-- What is behind both strings. -/
theorem shTail {E w : World} {B G : List Chunk} {Sx : World → Prop} (hSx : ∀ w, Sep E w B → Sx w) {b d many : Nat} {sw : SV} {any : Bool} (hw : wChunk b d sw any many ∈ B) (hm : many = 2) {R : Value → World → Prop} (hR : ∀ w C, Sep E w (C ++ B) → R (.bool true) w)
    (hS : Sep E w (G ++ B)) {s t : SV} (hs : RdB (G ++ B) s [97]) (ht : RdB (G ++ B) t [98]) :
    ∃ (s12 : SV) (w18 : World),
      Sem.run Pr (Instr.buildSlice 22 2 #[(0, (.slice s.a s.len s.cap)), (1, (.slice t.a t.len t.cap))]) w = .ok (.slice s12.a s12.len s12.cap) w18 ∧
      ∃ (S6 : World → Prop),
      (∀ w, S6 w → Sx w) ∧
      S6 w18 ∧
      Calls Pr 66 #[(.slice s12.a s12.len s12.cap)] w18 fun e8 w19 =>
        ∃ (s13 : SV),
        e8 = .returned (.slice s13.a s13.len s13.cap) ∧
        ∃ (S7 : World → Prop),
        (∀ w, S7 w → S6 w) ∧
        S7 w19 ∧
        ∃ (str2 : ByteArray),
        AtS Pr S7 (convert 26 9 (.slice s13.a s13.len s13.cap)) (.string str2) ∧
        brc ((ByteArray.toList (strOf (runL [[97], [98]])) == ByteArray.toList str2))
          (Calls Pr 24 #[(.pointer (some ⟨b, 0, none⟩))] w19 fun e9 w20 =>
              ∃ (n7 : Int),
              e9 = .returned (.int .i64 n7) ∧
              ∃ (S8 : World → Prop),
              (∀ w, S8 w → S7 w) ∧
              S8 w20 ∧
              R (.bool (n7 == (2 : Int))) w20)
          (R (.bool false) w19) := by
  obtain ⟨s1, w1, C, h1, ho, hS1⟩ := hS.litBs (n := 2) (parts := [(0, .slice s.a s.len s.cap), (1, .slice t.a t.len t.cap)]) (ss := [s, t]) rfl (by omega) (by kernel_rfl)
  refine ⟨s1, w1, h1, fun w => Sep E w B, hSx, hS1.weak (by intro f; simp only [ms_append, ms_cons, ms_nil]; omega), ?_⟩
  refine (k66 (ls := [[97], [98]]) hS1 (ho.rdl _) (((RdBs.nil _).cons ht).cons hs |>.mono fun c hc => List.mem_append_right _ hc) (by decide) (by decide)).mono ?_
  rintro _ w2 ⟨s2, C2, rfl, hr2, hS2⟩
  refine ⟨s2, rfl, fun w => Sep E w (C2 ++ B), fun w hw => hw.weak (by intro f; simp only [ms_append, ms_cons, ms_nil]; omega), hS2.weak (by intro f; simp only [ms_append, ms_cons, ms_nil]; omega), _, fun w hw => hw.toStr hr2 (fun c hc => List.mem_append_left _ hc) (by kernel_rfl) (by kernel_rfl), ?_⟩
  refine brc_true (beq_refl_toList _) ?_
  refine (k24 hS2 (List.mem_append_right _ (List.mem_append_right _ (List.mem_append_right _ hw)))).mono ?_
  rintro _ _ ⟨rfl, rfl⟩
  refine ⟨_, rfl, fun w => Sep E w (C2 ++ B), fun w hw => hw, hS2.weak (by intro f; simp only [ms_append, ms_cons, ms_nil]; omega), ?_⟩
  subst hm
  exact hR _ (C2 ++ (C ++ G)) (by simpa using hS2)

theorem Sep.bld {E w : World} {L : List Chunk} (hS : Sep E w L) (c : Nat) :
    ∃ (b : Nat) (w1 : World), Sem.run Pr (Instr.buildSlice 26 1 #[(0, .int .u8 ((c : Nat) : Int))]) w = .ok (.slice (some ⟨b, 0, none⟩) 1 1) w1 ∧ Sep E w1 ((b, .cells #[.int .u8 ((c : Nat) : Int)] 5 (0, 0)) :: L) :=
  hS.buildSlice (t := 26) (T := 5) (len := 1) (parts := [(0, .int .u8 ((c : Nat) : Int))]) (vs := [.int .u8 ((c : Nat) : Int)]) (by kernel_rfl) (by kernel_rfl)

theorem rdLit {I : List Chunk} {b : Nat} {c : Nat} (hc : c < 256) {fr : Nat × Nat} (h : (b, Obj.cells #[.int .u8 ((c : Nat) : Int)] 5 fr) ∈ I) : RdB I ⟨some ⟨b, 0, none⟩, 1, 1⟩ [UInt8.ofNat c] := by
  refine ⟨rfl, Nat.le_refl _, (fun h => by cases h), fun a ha => ?_⟩
  injection ha with ha
  subst ha
  refine .inr ⟨rfl, _, 5, fr, h, fun j u hu => ?_⟩
  rw [List.map_cons, List.map_nil, byteV_ofNat, Nat.mod_eq_of_lt hc] at hu
  simpa using hu

/-- What is shown. -/
theorem k20 {E w : World} {L : List Chunk} (hS : Sep E w L) : Calls Pr 20 #[] w fun e w' => e = .returned (.bool true) ∧ ∃ C, Sep E w' (C ++ L) := by
  refine call20 ?_
  unfold ir20
  refine (k25 hS 100).mono ?_
  rintro _ w1 ⟨d, D, rfl, hD, hS1⟩
  refine ⟨_, rfl, ?_⟩
  have hf0 : (MDisk.new 100).Fit 0 := MDisk.fit_new 100
  refine (k27 (hf0.mono (by omega)) hS1 hD).mono ?_
  rintro _ w2 ⟨D2, C2, hD2, h2⟩
  rcases h2 with ⟨h, _⟩ | ⟨_, b, rfl, hS2⟩
  · exact absurd sh_start h
  have hf1 : sh0.Fit 100 := by
    refine MDisk.Fit.mono (n := 2) ?_ (by omega)
    unfold sh0 startM
    split
    · exact (hf0.remove way).mono (by omega)
    · exact (hf0.remove way).create way
  have hfa : ∀ {M : MDisk} {n : Nat}, M.Fit n → ∀ (o : Option (List UInt8)) (x : List UInt8), x.length ≤ 64 → (addM M o x).2.1.Fit (n + 72) := fun {M n} h o x hx => by
    unfold addM
    split
    · exact h.mono (by omega)
    · split
      · exact h.mono (by omega)
      · have := h.append way (frameL x)
        rw [frameL_len] at this
        split
        · exact this.mono (by omega)
        · exact this.mono (by omega)
  refine ⟨_, _, rfl, brc_false rfl (brc_false rfl ?_)⟩
  obtain ⟨s1, w3, h3, w4, C4, h4, hr4, hS4⟩ := hS2.str 97
  refine ⟨s1, w3, h3, s1, w4, h4, ?_⟩
  have hS4' : Sep E w4 (wChunk b d SV.nil false 0 :: (D2.chunks sh0 d ++ (C4 ++ (C2 ++ L)))) := hS4.weak (by intro f; simp only [sh0, ms_append, ms_cons, ms_nil]; omega)
  refine (k22 (m := [97]) (hf1.mono (by omega)) hS4' hD2 (fun c hc => by cases hc) (o := none) ⟨rfl, fun l hl => by cases hl⟩ (hr4.left _) (by decide) (by omega)).mono ?_
  rintro _ w5 ⟨D3, C5, s3, any3, rfl, hD3, ho3, hS5⟩
  rw [sh_a.2] at ho3
  rw [if_pos sh_a.1] at hS5
  refine ⟨_, rfl, brc_false (by rw [sh_a.1]; rfl) ?_⟩
  -- the second one
  obtain ⟨s4, w6, h6, w7, C7, h7, hr7, hS7⟩ := hS5.str 97
  refine ⟨s4, w6, h6, s4, w7, h7, ?_⟩
  have hf2 : sh1.Fit 1000 := (hfa hf1 none [97] (by decide)).mono (by omega)
  have hS7' : Sep E w7 (wChunk b d s3 any3 1 :: (D3.chunks sh1 d ++ ((C5 ++ []) ++ (C7 ++ (C4 ++ (C2 ++ L)))))) := hS7.weak (by intro f; simp only [sh1, Nat.zero_add, ms_append, ms_cons, ms_nil]; omega)
  refine (k22 (m := [97]) (hf2.mono (by omega)) hS7' hD3 (fun c hc => List.mem_append_left _ hc) ho3 (hr7.mono fun c hc => List.mem_append_right _ (List.mem_append_left _ hc)) (by decide) (by omega)).mono ?_
  rw [sh_aa]
  rintro _ w8 ⟨D4, C8, s5, any5, rfl, hD4, ho4, hS8⟩
  rw [if_neg (by decide)] at hS8
  refine ⟨_, rfl, brc_false rfl ?_⟩
  -- the third one
  obtain ⟨s6, w9, h9, w10, C10, h10, hr10, hS10⟩ := hS8.str 98
  refine ⟨s6, w9, h9, s6, w10, h10, ?_⟩
  have hS10' : Sep E w10 (wChunk b d s5 any5 1 :: (D4.chunks sh1 d ++ ((C8 ++ (C5 ++ [])) ++ (C10 ++ (C7 ++ (C4 ++ (C2 ++ L))))))) := hS10.weak (by intro f; simp only [ms_append, ms_cons, ms_nil]; omega)
  refine (k22 (m := [98]) (hf2.mono (by omega)) hS10' hD4 (fun c hc => List.mem_append_left _ hc) ho4 (hr10.mono fun c hc => List.mem_append_right _ (List.mem_append_left _ hc)) (by decide) (by omega)).mono ?_
  rintro _ w11 ⟨D5, C11, s7, any7, rfl, hD5, _, hS11⟩
  rw [if_pos sh_b.1] at hS11
  refine ⟨_, rfl, brc_false (by rw [sh_b.1]; rfl) ?_⟩
  have hf3 : sh2.Fit 2000 := (hfa hf2 (some [97]) [98] (by decide)).mono (by omega)
  refine (k23 (M := sh2) (hf3.mono (by omega)) hS11 hD5 ⟨#[120]⟩).mono ?_
  rintro _ w12 ⟨D6, C12, rfl, hD6, hS12⟩
  refine ⟨_, rfl, brc_false (by rw [sh_end]; rfl) ?_⟩
  have hf4 : sh3.Fit 3000 := by
    have h1 := hf3.sync way
    have h2 := h1.rename way ⟨#[120]⟩
    have h3 := h2.syncNames
    unfold sh3 endM
    split
    · exact hf3.mono (by omega)
    · split
      · exact h1.mono (by omega)
      · split
        · exact h2.mono (by omega)
        · exact h3.mono (by omega)
  have hS12' : Sep E w12 (D6.chunks sh3 d ++ ((C11 ++ (C8 ++ (C5 ++ []))) ++ (wChunk b d s7 any7 2 :: (C12 ++ (C10 ++ (C7 ++ (C4 ++ (C2 ++ L)))))))) := hS12.weak (by intro f; simp only [sh3, Nat.reduceAdd, ms_append, ms_cons, ms_nil]; omega)
  refine (k28 (M := sh3) hf4.left hS12' hD6 (fun c hc => List.mem_append_left _ hc) ⟨#[120]⟩ fun f hf => Nat.le_trans (hf4.files f hf) (by omega)).mono ?_
  rintro _ w13 ⟨s8, C13, rfl, hr13, _, _, hS13⟩
  rw [sh_read.2] at hr13
  refine ⟨s8, _, rfl, ?_⟩
  -- what is left is the same in all orders
  obtain ⟨B, hwm, hrb, hR, G0, hSB⟩ : ∃ B : List Chunk, wChunk b d s7 any7 2 ∈ B ∧ (∀ w, Sep E w B → At Pr w (convert 26 9 (.slice s8.a s8.len s8.cap)) (.string (strOf (runL [[97], [98]])))) ∧
      (∀ w' C, Sep E w' (C ++ B) → (fun (v : Value) (w' : World) => Ending.returned v = .returned (.bool true) ∧ ∃ C, Sep E w' (C ++ L)) (.bool true) w') ∧ ∃ G0, Sep E (World.drew w13) (G0 ++ B) := by
    refine ⟨wChunk b d s7 any7 2 :: (C13 ++ L), List.mem_cons_self, fun w hw => hw.toStr hr13 (fun c hc => List.mem_cons_of_mem _ (List.mem_append_left _ hc)) (by kernel_rfl) (by kernel_rfl), fun w' C h => ⟨rfl, C ++ wChunk b d s7 any7 2 :: C13, h.weak (by intro f; simp only [ms_append, ms_cons, ms_nil]; omega)⟩,
      D6.chunks (sh3.read ⟨#[120]⟩).2.2 d ++ ((C11 ++ (C8 ++ (C5 ++ []))) ++ (C12 ++ (C10 ++ (C7 ++ (C4 ++ C2))))), hS13.drew.weak (by intro f; simp only [ms_append, ms_cons, ms_nil]; omega)⟩
  refine ⟨fun w => Sep E w B, hSB.weak (by intro f; simp only [ms_append, ms_cons, ms_nil]; omega), brc_true (by rw [sh_read.1]; rfl) ?_⟩
  refine ⟨_, hrb, ?_, ?_⟩
  · obtain ⟨b1, u1, g1, T1⟩ := hSB.bld 97
    refine ⟨⟨some ⟨b1, 0, none⟩, 1, 1⟩, u1, g1, fun w => Sep E w B, fun w h => h, T1.weak (by intro f; simp only [ms_append, ms_cons, ms_nil]; omega), ?_, ?_⟩
    · obtain ⟨u2, f2, g2, T2⟩ := T1.conv (n := 1)
      refine ⟨⟨some ⟨b1, 0, none⟩, 1, 1⟩, u2, g2, fun w => Sep E w B, fun w h => h, T2.weak (by intro f; simp only [ms_append, ms_cons, ms_nil]; omega), ?_⟩
      obtain ⟨b3, u3, g3, T3⟩ := T2.bld 98
      refine ⟨⟨some ⟨b3, 0, none⟩, 1, 1⟩, u3, g3, fun w => Sep E w B, fun w h => h, T3.weak (by intro f; simp only [ms_append, ms_cons, ms_nil]; omega), ?_⟩
      obtain ⟨u4, f4, g4, T4⟩ := T3.conv (n := 1)
      refine ⟨⟨some ⟨b3, 0, none⟩, 1, 1⟩, u4, g4, fun w => Sep E w B, fun w h => h, T4.weak (by intro f; simp only [ms_append, ms_cons, ms_nil]; omega), ?_⟩
      exact shTail (G := _ :: _ :: G0) (fun w h => h) hwm rfl (R := fun v w' => Ending.returned v = .returned (.bool true) ∧ ∃ C, Sep E w' (C ++ L)) hR T4 (rdLit (c := 97) (by omega) (List.mem_cons_of_mem _ List.mem_cons_self)) (rdLit (c := 98) (by omega) List.mem_cons_self)
    · obtain ⟨b2, u2, g2, T2⟩ := T1.bld 98
      refine ⟨⟨some ⟨b2, 0, none⟩, 1, 1⟩, u2, g2, fun w => Sep E w B, fun w h => h, T2.weak (by intro f; simp only [ms_append, ms_cons, ms_nil]; omega), ?_, ?_⟩
      · obtain ⟨u3, f3, g3, T3⟩ := (T2.weak (L' := (b1, .cells #[.int .u8 ((97 : Nat) : Int)] 5 (0, 0)) :: (b2, .cells #[.int .u8 ((98 : Nat) : Int)] 5 (0, 0)) :: (G0 ++ B)) (by intro f; simp only [ms_append, ms_cons, ms_nil]; omega)).conv (n := 1)
        refine ⟨⟨some ⟨b1, 0, none⟩, 1, 1⟩, u3, g3, fun w => Sep E w B, fun w h => h, T3.weak (by intro f; simp only [ms_append, ms_cons, ms_nil]; omega), ?_⟩
        obtain ⟨u4, f4, g4, T4⟩ := (T3.weak (L' := (b2, .cells #[.int .u8 ((98 : Nat) : Int)] 5 (0, 0)) :: (b1, .cells #[.int .u8 ((97 : Nat) : Int)] 5 f3) :: (G0 ++ B)) (by intro f; simp only [ms_append, ms_cons, ms_nil]; omega)).conv (n := 1)
        refine ⟨⟨some ⟨b2, 0, none⟩, 1, 1⟩, u4, g4, fun w => Sep E w B, fun w h => h, T4.weak (by intro f; simp only [ms_append, ms_cons, ms_nil]; omega), ?_⟩
        exact shTail (G := _ :: _ :: G0) (fun w h => h) hwm rfl (R := fun v w' => Ending.returned v = .returned (.bool true) ∧ ∃ C, Sep E w' (C ++ L)) hR T4 (rdLit (c := 97) (by omega) (List.mem_cons_of_mem _ List.mem_cons_self)) (rdLit (c := 98) (by omega) List.mem_cons_self)
      · obtain ⟨u3, f3, g3, T3⟩ := T2.conv (n := 1)
        refine ⟨⟨some ⟨b2, 0, none⟩, 1, 1⟩, u3, g3, fun w => Sep E w B, fun w h => h, T3.weak (by intro f; simp only [ms_append, ms_cons, ms_nil]; omega), ?_⟩
        obtain ⟨u4, f4, g4, T4⟩ := (T3.weak (L' := (b1, .cells #[.int .u8 ((97 : Nat) : Int)] 5 (0, 0)) :: (b2, .cells #[.int .u8 ((98 : Nat) : Int)] 5 f3) :: (G0 ++ B)) (by intro f; simp only [ms_append, ms_cons, ms_nil]; omega)).conv (n := 1)
        refine ⟨⟨some ⟨b1, 0, none⟩, 1, 1⟩, u4, g4, fun w => Sep E w B, fun w h => h, T4.weak (by intro f; simp only [ms_append, ms_cons, ms_nil]; omega), ?_⟩
        exact shTail (G := _ :: _ :: G0) (fun w h => h) hwm rfl (R := fun v w' => Ending.returned v = .returned (.bool true) ∧ ∃ C, Sep E w' (C ++ L)) hR T4 (rdLit (c := 97) (by omega) List.mem_cons_self) (rdLit (c := 98) (by omega) (List.mem_cons_of_mem _ List.mem_cons_self))
  · obtain ⟨b2, u1, g1, T1⟩ := hSB.bld 98
    refine ⟨⟨some ⟨b2, 0, none⟩, 1, 1⟩, u1, g1, fun w => Sep E w B, fun w h => h, T1.weak (by intro f; simp only [ms_append, ms_cons, ms_nil]; omega), ?_, ?_⟩
    · obtain ⟨b1, u2, g2, T2⟩ := T1.bld 97
      refine ⟨⟨some ⟨b1, 0, none⟩, 1, 1⟩, u2, g2, fun w => Sep E w B, fun w h => h, T2.weak (by intro f; simp only [ms_append, ms_cons, ms_nil]; omega), ?_, ?_⟩
      · obtain ⟨u3, f3, g3, T3⟩ := T2.conv (n := 1)
        refine ⟨⟨some ⟨b1, 0, none⟩, 1, 1⟩, u3, g3, fun w => Sep E w B, fun w h => h, T3.weak (by intro f; simp only [ms_append, ms_cons, ms_nil]; omega), ?_⟩
        obtain ⟨u4, f4, g4, T4⟩ := (T3.weak (L' := (b2, .cells #[.int .u8 ((98 : Nat) : Int)] 5 (0, 0)) :: (b1, .cells #[.int .u8 ((97 : Nat) : Int)] 5 f3) :: (G0 ++ B)) (by intro f; simp only [ms_append, ms_cons, ms_nil]; omega)).conv (n := 1)
        refine ⟨⟨some ⟨b2, 0, none⟩, 1, 1⟩, u4, g4, fun w => Sep E w B, fun w h => h, T4.weak (by intro f; simp only [ms_append, ms_cons, ms_nil]; omega), ?_⟩
        exact shTail (G := _ :: _ :: G0) (fun w h => h) hwm rfl (R := fun v w' => Ending.returned v = .returned (.bool true) ∧ ∃ C, Sep E w' (C ++ L)) hR T4 (rdLit (c := 97) (by omega) (List.mem_cons_of_mem _ List.mem_cons_self)) (rdLit (c := 98) (by omega) List.mem_cons_self)
      · obtain ⟨u3, f3, g3, T3⟩ := (T2.weak (L' := (b2, .cells #[.int .u8 ((98 : Nat) : Int)] 5 (0, 0)) :: (b1, .cells #[.int .u8 ((97 : Nat) : Int)] 5 (0, 0)) :: (G0 ++ B)) (by intro f; simp only [ms_append, ms_cons, ms_nil]; omega)).conv (n := 1)
        refine ⟨⟨some ⟨b2, 0, none⟩, 1, 1⟩, u3, g3, fun w => Sep E w B, fun w h => h, T3.weak (by intro f; simp only [ms_append, ms_cons, ms_nil]; omega), ?_⟩
        obtain ⟨u4, f4, g4, T4⟩ := (T3.weak (L' := (b1, .cells #[.int .u8 ((97 : Nat) : Int)] 5 (0, 0)) :: (b2, .cells #[.int .u8 ((98 : Nat) : Int)] 5 f3) :: (G0 ++ B)) (by intro f; simp only [ms_append, ms_cons, ms_nil]; omega)).conv (n := 1)
        refine ⟨⟨some ⟨b1, 0, none⟩, 1, 1⟩, u4, g4, fun w => Sep E w B, fun w h => h, T4.weak (by intro f; simp only [ms_append, ms_cons, ms_nil]; omega), ?_⟩
        exact shTail (G := _ :: _ :: G0) (fun w h => h) hwm rfl (R := fun v w' => Ending.returned v = .returned (.bool true) ∧ ∃ C, Sep E w' (C ++ L)) hR T4 (rdLit (c := 97) (by omega) List.mem_cons_self) (rdLit (c := 98) (by omega) (List.mem_cons_of_mem _ List.mem_cons_self))
    · obtain ⟨u2, f2, g2, T2⟩ := T1.conv (n := 1)
      refine ⟨⟨some ⟨b2, 0, none⟩, 1, 1⟩, u2, g2, fun w => Sep E w B, fun w h => h, T2.weak (by intro f; simp only [ms_append, ms_cons, ms_nil]; omega), ?_⟩
      obtain ⟨b1, u3, g3, T3⟩ := T2.bld 97
      refine ⟨⟨some ⟨b1, 0, none⟩, 1, 1⟩, u3, g3, fun w => Sep E w B, fun w h => h, T3.weak (by intro f; simp only [ms_append, ms_cons, ms_nil]; omega), ?_⟩
      obtain ⟨u4, f4, g4, T4⟩ := T3.conv (n := 1)
      refine ⟨⟨some ⟨b1, 0, none⟩, 1, 1⟩, u4, g4, fun w => Sep E w B, fun w h => h, T4.weak (by intro f; simp only [ms_append, ms_cons, ms_nil]; omega), ?_⟩
      exact shTail (G := _ :: _ :: G0) (fun w h => h) hwm rfl (R := fun v w' => Ending.returned v = .returned (.bool true) ∧ ∃ C, Sep E w' (C ++ L)) hR T4 (rdLit (c := 97) (by omega) List.mem_cons_self) (rdLit (c := 98) (by omega) (List.mem_cons_of_mem _ List.mem_cons_self))

/-- RunNil. -/
theorem k4 {E w : World} {L : List Chunk} (hS : Sep E w L) (x : SV) (n : ByteArray) : Calls Pr 4 #[.slice x.a x.len x.cap, .string n] w fun e w' => e = .returned (.bool true) ∧ ∃ C, Sep E w' (C ++ L) := by
  refine call4 ?_
  unfold ir4
  refine (k20 hS).mono ?_
  rintro _ w1 ⟨rfl, C1, hS1⟩
  refine ⟨true, rfl, (k21n hS1).mono ?_⟩
  rintro _ w2 ⟨rfl, C2, hS2⟩
  refine ⟨SV.nil, false, _, rfl, ?_⟩
  obtain ⟨b, w3, h3, hS3⟩ := hS2.alloc (t := 34) z34
  refine ⟨_, w3, h3, ?_⟩
  obtain ⟨w4, h4, hS4⟩ := hS3.store (o := 0) (n := 2) (v := .agg #[.slice none 0 0, .bool false]) (t := 34) (by kernel_rfl) rfl (by simp) (by simp [Value.cells, Value.oneCell'])
  refine ⟨w4, h4, brc_true rfl ((k22n x).mono ?_)⟩
  rintro _ _ ⟨rfl, rfl⟩
  refine ⟨_, rfl, brc_true rfl ((k23n n).mono ?_)⟩
  rintro _ _ ⟨rfl, rfl⟩
  refine ⟨_, rfl, brc_true rfl (k24n.mono ?_)⟩
  rintro _ _ ⟨rfl, rfl⟩
  refine ⟨_, rfl, brc_true rfl ?_⟩
  refine ⟨false, hS4.load (o := 1) List.mem_cons_self rfl (by kernel_rfl), brc_true rfl ⟨rfl, (b, Obj.cells (spl [.slice none 0 0, .bool false] 0 (Value.agg #[.slice none 0 0, .bool false]).cells.toList).toArray 34 (0, 0)) :: (C2 ++ C1), ?_⟩⟩
  exact hS4.weak (by intro f; simp only [ms_append, ms_cons, ms_nil]; omega)

end Go.Proofs.Ytonjaaljnjjjcaa
