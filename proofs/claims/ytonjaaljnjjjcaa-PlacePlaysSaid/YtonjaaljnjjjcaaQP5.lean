/- PlacePlays: whatever the input, the call returns true, and the arguments read as they read before. Conditions: none. -/
import Derived.ChangeArms
import Derived.Test.YtonjaaljnjjjcaaRows
import Derived.ProofKit
import Derived.Test.YtonjaaljnjjjcaaQP4
/- The reference's disk: Crash. Conditions: as each lemma says. -/
set_option linter.unusedVariables false
set_option linter.unusedSimpArgs false
namespace Go.Proofs.Ytonjaaljnjjjcaa
open Go Go.RowKit

/-- left. -/
theorem k111 {E w : World} {L : List Chunk} (hS : Sep E w L) (n0 : Int) {sb : SV} {ns : List Int} (hr : RdS L 1 sb (ns.map intV)) (i most : Nat) (hb : most ≤ 1000000000000) :
    Calls Pr 111 #[.agg #[.int .i64 n0, .slice sb.a sb.len sb.cap], .int .i64 (i : Int), .int .i64 (most : Int)] w fun e w' => ∃ C : List Chunk, e = .returned (.int .i64 ((MDisk.leftOf ns i most : Nat) : Int)) ∧ Sep E w' (C ++ L) := by
  refine call111 ?_
  unfold ir111
  obtain ⟨a1, w1, h1, hS1⟩ := hS.newVar (t := 63) (v := .agg #[intV n0, slV sb])
  let wC : Chunk := (a1, .cells #[intV n0, slV sb] 63 (0, 0))
  have hS1 : Sep E w1 (wC :: L) := hS1
  have hsn := hr.len1
  rw [List.length_map] at hsn
  refine ⟨_, w1, h1, sb, hS1.load (b := a1) (o := 1) List.mem_cons_self rfl (by kernel_rfl), brc_intro (fun hp => ?_) (fun hp => ?_)⟩
  · have hp : ns = [] := List.eq_nil_of_length_eq_zero (by simp at hp; omega)
    subst hp
    exact ⟨[wC], rfl, hS1⟩
  · have hp : 0 < ns.length := by simp at hp; omega
    have hmod := Nat.mod_lt i hp
    refine ⟨fun w => Sep E w (wC :: L), hS1.drew, sb, fun w hw => hw.load (b := a1) (o := 1) List.mem_cons_self rfl (by kernel_rfl), sb, fun w hw => hw.load (b := a1) (o := 1) List.mem_cons_self rfl (by kernel_rfl), by omega, ?_⟩
    have htm : Int.tmod (i : Int) ((sb.len : Nat) : Int) = ((i % ns.length : Nat) : Int) := by rw [hsn]; exact (Int.ofNat_tmod i ns.length).symm
    rw [htm]
    refine ⟨⟨by omega, by omega⟩, ?_⟩
    have hni : ns[i % ns.length]? = some ns[i % ns.length] := List.getElem?_eq_getElem hmod
    obtain ⟨a8, ha8, hat8⟩ := hr.idxU (i := i % ns.length) (v := intV ns[i % ns.length]) (by rw [List.getElem?_map, hni]; rfl) (t := 3) (by kernel_rfl)
    rw [ha8]
    refine ⟨ns[i % ns.length], fun w hw => hat8 hw (fun c hc => List.mem_cons_of_mem _ hc), [wC], ?_, hS1.drew⟩
    rw [leftOf_at hp hmod]
    congr 2
    generalize ns[i % ns.length] = v
    split <;> split at * <;> omega

theorem numbered_at : ∀ (nm : Names) (k i : Nat) (x : ByteArray × Nat), nm[i]? = some x → (MDisk.numbered k nm)[i]? = some (x.1, k + i)
  | [], k, i, x, h => by simp at h
  | y :: nm, k, 0, x, h => by
    simp at h
    subst h
    rfl
  | y :: nm, k, i + 1, x, h => by
    have := numbered_at nm (k + 1) i x (by simpa using h)
    simp only [MDisk.numbered, List.getElem?_cons_succ, this]
    rw [show k + 1 + i = k + (i + 1) by omega]

theorem take_all {α : Type} {l : List α} {j : Nat} (h : l.length ≤ j) : l.take j = l := List.take_of_length_le h

/-- Crash. -/
theorem k46 {E w : World} {L I : List Chunk} {M : MDisk} {R : RS} {d n b : Nat} (hS : Sep E w (R.chunks M d ++ L)) (hR : RRep R M I) (hI : ∀ c ∈ I, c ∈ L) (hg : M.Good) (hm : M.Small n b) (hn : n ≤ 1000000) (hb : b ≤ 1000000000)
    (n0 : Int) {sb : SV} {ns : List Int} (hr : RdS L 1 sb (ns.map intV)) :
    Calls Pr 46 #[.pointer (some ⟨d, 0, none⟩), .agg #[.int .i64 n0, .slice sb.a sb.len sb.cap]] w fun e w' => ∃ (R' : RS) (C : List Chunk), e = .returned (.int .i64 0) ∧ RRep R' (M.crash n0 ns) (C ++ I) ∧ Sep E w' (R'.chunks (M.crash n0 ns) d ++ (C ++ L)) := by
  refine call46 ?_
  unfold ir46
  obtain ⟨a1, w1, h1, hS1⟩ := hS.newVar (t := 63) (v := .agg #[intV n0, slV sb])
  let wC : Chunk := (a1, .cells #[intV n0, slV sb] 63 (0, 0))
  let F : List Chunk := wC :: (R.chunks M d ++ L)
  have hS1 : Sep E w1 F := hS1
  have md : rChunkD M d R.sf R.sn R.sk R.sc R.lf ∈ F := List.mem_cons_of_mem _ (List.mem_append_left _ List.mem_cons_self)
  have mw : wC ∈ F := List.mem_cons_self
  have hIF : ∀ c ∈ I, c ∈ F := fun c hc => by simp [F, hI c hc]
  refine ⟨_, w1, h1, R.sk, hS1.load (b := d) (o := 2) md rfl (by kernel_rfl), ?_⟩
  have hsc := RdG.size encC_ok hR.chs
  have hnm := hm.names
  have hfl := congrArg List.length hR.files
  rw [List.length_map] at hfl
  -- the changes
  refine ⟨fun k σ w2 => ∃ (j : Nat) (C : List Chunk), j ≤ M.changes.length ∧ (j = 0 ∨ (j : Int) ≤ n0) ∧ k = M.changes.length - j ∧ σ.1 = (j : Int) ∧ RdS (C ++ I) 2 σ.2.1 (((M.changes.take j).foldl doN M.kept).flatMap encN) ∧ Sep E w2 (C ++ F), M.changes.length, ⟨0, [], Nat.zero_le _, .inl rfl, rfl, rfl, hR.kept, hS1⟩, ?_⟩
  clear hS1 h1
  rintro k ⟨jj, sa, u⟩ w2 ⟨j, C, hj, hj0, rfl, hjj, hra, hS2⟩ _
  dsimp only at hjj hra ⊢
  subst hjj
  have hIC : ∀ c ∈ C ++ I, c ∈ C ++ F := fun c hc => (List.mem_append.1 hc).elim (fun h => List.mem_append_left _ h) (fun h => List.mem_append_right _ (hIF c h))
  have mdC : rChunkD M d R.sf R.sn R.sk R.sc R.lf ∈ C ++ F := List.mem_append_right _ md
  have hfold := foldl_len (M.changes.take j) M.kept
  have htl : (M.changes.take j).length ≤ M.changes.length := by rw [List.length_take]; omega
  refine ⟨R.sc, hS2.load (b := d) (o := 3) mdC rfl (by kernel_rfl), brc_intro (fun h => ⟨n0, hS2.load (b := a1) (o := 0) (List.mem_append_right _ mw) rfl (by kernel_rfl), brc_intro (fun h2 => ?_) (fun h2 => ?_)⟩) (fun h => ?_)⟩
  · have h : j < M.changes.length := by simp at h; omega
    have h2 : (j : Int) < n0 := by simpa using h2
    have hx : M.changes[j]? = some M.changes[j] := List.getElem?_eq_getElem h
    generalize M.changes[j] = c at hx
    obtain ⟨a, ha, hat0, _⟩ := RdG.at_ encC_ok hR.chs hx
    refine ⟨R.sc, hS2.load (b := d) (o := 3) mdC rfl (by kernel_rfl), ?_⟩
    rw [ha]
    refine ⟨⟨by omega, by omega⟩, c.gone, c.new, (if c.gone = noName then (c.file : Int) else 0), hat0 (t := 166) (by kernel_rfl) (by kernel_rfl) hS2 (fun c hc => by simp [hIF c hc]), ?_⟩
    have hf := fitsAll_at hg.fits hx
    have hne := foldl_noEmpty (M.changes.take j) hg.empty
    have htk : (M.changes.take (j + 1)).foldl doN M.kept = doN ((M.changes.take j).foldl doN M.kept) c := by rw [take_at hx, List.foldl_append]; rfl
    refine (k104 hS2 hra hIC (by omega) hne hf).mono ?_
    rintro _ w4 ⟨s4, C4, G4, rfl, ho4, hS4⟩
    refine ⟨s4, rfl, M.changes.length - (j + 1), by omega, j + 1, C4 ++ (G4 ++ C), by omega, .inr (by omega), rfl, by rw [w64 (by omega) (by omega)]; rfl, ?_, hS4.weak (by intro f; simp only [ms_append, ms_cons, ms_nil]; omega)⟩
    show RdS _ 2 s4 _
    rw [htk]
    exact ho4.rds.mono fun c hc => by simp [hc]
  all_goals
    have hdone : ((M.changes.take j).foldl doN M.kept) = M.left_ n0 := by
      have h3 : M.changes.take j = M.changes.take n0.toNat := by
        first
          | (have h2 : ¬ (j : Int) < n0 := by simpa using h2
             have : j = n0.toNat := by omega
             rw [this])
          | (have h : ¬ (j : Int) < ((R.sc.len : Nat) : Int) := by simpa using h
             rw [take_all (by omega)]
             rcases hj0 with hj0 | hj0
             · rw [List.eq_nil_of_length_eq_zero (by omega : M.changes.length = 0)]
               simp
             · rw [take_all (by omega)])
      rw [h3]
      rfl
    rw [hdone] at hra hfold
    have hlB := hg.leftB n0
    have hcr : M.crash n0 ns = ⟨M.crashed ns 0 (M.left_ n0), MDisk.numbered 0 (M.left_ n0), MDisk.numbered 0 (M.left_ n0), [], M.room, false, false, 0⟩ := rfl
    rw [hcr]
    generalize M.left_ n0 = nm at *
    have hsa := RdG.size encN_ok hra
    refine ⟨fun k σ w3 => ∃ (i : Nat) (fl : List (SV × MFile)) (CF CN G : List Chunk), i ≤ nm.length ∧ k = nm.length - i ∧ σ.1 = (i : Int) ∧ fl.map (·.2) = (M.crashed ns 0 nm).take i ∧ (∀ r ∈ fl, RdB G r.1 r.2.bytes) ∧ Own 169 2 σ.2.1 (fl.flatMap encF) CF ∧ Own 163 2 σ.2.2.1 (((MDisk.numbered 0 nm).take i).flatMap encN) CN ∧ Sep E w3 (CF ++ (CN ++ (G ++ (C ++ F)))), nm.length, ⟨0, [], [], [], [], Nat.zero_le _, rfl, rfl, rfl, (fun r hr => by cases hr), Own.nil _ _, Own.nil _ _, hS2⟩, ?_⟩
    rintro k ⟨ii, sfl, snm, u⟩ w3 ⟨i, fl, CF, CN, G, hi, rfl, hii, hfl2, hfb, hof, hon, hS3⟩ _
    dsimp only at hii hof hon ⊢
    subst hii
    let Y : List Chunk := CF ++ (CN ++ (G ++ (C ++ F)))
    have mY : ∀ c ∈ C ++ F, c ∈ Y := fun c hc => List.mem_append_right _ (List.mem_append_right _ (List.mem_append_right _ hc))
    have hS3 : Sep E w3 Y := hS3
    have hflen : fl.length = i := by
      have := congrArg List.length hfl2
      rw [List.length_map, List.length_take, MDisk.crashed_len] at this
      omega
    have hnlen : ((MDisk.numbered 0 nm).take i).length = i := by rw [List.length_take, MDisk.numbered_len]; omega
    refine brc_intro (fun h4 => ?_) (fun h4 => ?_)
    · have h4 : i < nm.length := by simp at h4; omega
      have hx : nm[i]? = some nm[i] := List.getElem?_eq_getElem h4
      generalize nm[i] = x at hx
      have hcx := crashed_get M ns nm 0 i x hx
      rw [Nat.zero_add] at hcx
      have hnx := numbered_at nm 0 i x hx
      rw [Nat.zero_add] at hnx
      have hxb : x.2 < M.files.length := hlB x (List.mem_of_getElem? hx)
      obtain ⟨A, r, B, hfs, hA, hrx, hfa, hrr, hrm⟩ := hR.file hxb
      rw [hfa] at hcx
      have hkf := hg.keptF _ hrm
      have hbf := hm.each _ hrm
      have hrb := hR.bytes r hrr
      have hrl := hrb.size
      have hrc := hrb.cap
      have hsf := RdG.size encF_ok hR.own.rds
      have hril := (List.getElem?_eq_some_iff.1 hrx).1
      obtain ⟨a7, ha7, _, hat7⟩ := RdG.at_ encN_ok hra hx
      obtain ⟨a8, ha8, hat8, _⟩ := RdG.at_ encF_ok hR.own.rds hrx
      have mCF : ∀ c ∈ R.CF, c ∈ Y := fun c hc => mY c (by simp [F, RS.chunks, hc])
      refine ⟨fun w => Sep E w Y, hS3.drew, R.sf, fun w hw => Sep.load (L := Y) hw (b := d) (o := 0) (mY _ mdC) rfl (by kernel_rfl), ⟨by omega, by omega⟩, ?_⟩
      rw [ha7]
      refine ⟨(x.2 : Int), fun w hw => hat7 (j := 1) (v := .int .i64 (x.2 : Int)) (t := 3) rfl (by kernel_rfl) hw (fun c hc => mY _ (hIC c hc)), ⟨by omega, by omega⟩, ?_⟩
      rw [ha8]
      refine ⟨r.1, (r.2.kept : Int), fun w hw => hat8 (t := 169) (by kernel_rfl) (by kernel_rfl) hw mCF, ?_⟩
      obtain ⟨q, w4, h5, hS4⟩ := hS3.drew.alloc (t := 169) z169
      refine ⟨_, w4, h5, fun w => Sep E w Y, fun w hw => hw, hS4.weak (by intro f; simp only [ms_append, ms_cons, ms_nil]; omega), ?_⟩
      obtain ⟨w5, h6, hS5⟩ := Sep.store (cs := [.slice none 0 0, .int .i64 0]) (o := 0) (n := 2) (v := .agg #[slV r.1, .int .i64 (r.2.kept : Int)]) (t := 169) hS4 (by kernel_rfl) rfl (by simp) (by simp [Value.cells, Value.oneCell'])
      let Q : Chunk := (q, .cells #[slV r.1, .int .i64 (r.2.kept : Int)] 169 (0, 0))
      have hS5 : Sep E w5 (Q :: Y) := hS5
      refine ⟨w5, h6, fun _ => True, trivial, fun w => Sep E w (Q :: Y), hS5.drew, ?_⟩
      have mw5 : wC ∈ Q :: Y := List.mem_cons_of_mem _ (mY _ (List.mem_append_right _ mw))
      refine ⟨(r.2.kept : Int), fun w hw => hw.load (b := q) (o := 1) List.mem_cons_self rfl (by kernel_rfl), n0, sb, fun w hw => hw.loadS (b := a1) (o := 0) (n := 2) mw5 (by kernel_rfl) (by kernel_rfl) rfl (by simp), r.1, fun w hw => hw.load (b := q) (o := 0) List.mem_cons_self rfl (by kernel_rfl), (r.2.kept : Int), fun w hw => hw.load (b := q) (o := 1) List.mem_cons_self rfl (by kernel_rfl), ?_⟩
      have hmost : IntKind.wrap .i64 (((r.1.len : Nat) : Int) - (r.2.kept : Int)) = ((r.2.bytes.length - r.2.kept : Nat) : Int) := by rw [w64 (by omega) (by omega)]; omega
      rw [hmost]
      refine (k111 hS5.drew n0 (hr.mono fun c hc => List.mem_cons_of_mem _ (mY _ (by simp [F, hc]))) i (r.2.bytes.length - r.2.kept) (by omega)).mono ?_
      rintro _ w6 ⟨C6, rfl, hS6⟩
      have hlo := MDisk.leftOf_le ns i (r.2.bytes.length - r.2.kept)
      generalize MDisk.leftOf ns i (r.2.bytes.length - r.2.kept) = lo at *
      refine ⟨_, rfl, fun w => Sep E w (Q :: Y), fun w hw => hw, hS6.weak (by intro f; simp only [ms_append, ms_cons, ms_nil]; omega), ?_⟩
      have hwn : IntKind.wrap .i64 ((r.2.kept : Int) + ((lo : Nat) : Int)) = ((r.2.kept + lo : Nat) : Int) := by rw [w64 (by omega) (by omega)]; omega
      rw [hwn]
      obtain ⟨s7, w7, C7, h7, ho7, hS7⟩ := Sep.litG0 (α := UInt8) (enc := fun b => [byteV b]) tiB hS6 (by kernel_rfl)
      have ho7 : Own 5 1 s7 (([] : List UInt8).map byteV) C7 := ho7
      refine ⟨s7, w7, h7, r.1, hS7.load (b := q) (o := 0) (List.mem_append_right _ (List.mem_append_right _ List.mem_cons_self)) rfl (by kernel_rfl), ⟨by omega, by omega⟩, ?_⟩
      rw [Int.toNat_natCast]
      have hcut := hrb.cut (l := 0) (h := r.2.kept + lo) (m := r.1.cap) (by omega) (by omega) (by omega) (Nat.le_refl _)
      rw [List.drop_zero] at hcut
      obtain ⟨s8, w8, C8, h8, ho8, hS8⟩ := Sep.appB (ty := 26) (x := ⟨cutAt r.1.a 0 r.1.cap 1, (r.2.kept + lo) - 0, r.1.cap - 0⟩) hS7 ho7 (hcut.mono fun c hc => by
        have := mY _ (hIC c (List.mem_append_right _ hc))
        simp [this]) (by simp; omega)
      rw [List.nil_append] at ho8
      refine ⟨s8, w8, h8, ?_⟩
      have hS8' : Sep E w8 (CF ++ (C8 ++ (C6 ++ (Q :: (CN ++ (G ++ (C ++ F))))))) := hS8.weak (by intro f; simp only [Y, ms_append, ms_cons, ms_nil]; omega)
      let r' : SV × MFile := (s8, ⟨r.2.bytes.take (r.2.kept + lo), r.2.kept + lo⟩)
      obtain ⟨s9, w9, h9, s10, w10, C10, G10, h10, ho10, hS10⟩ := Sep.pushG encF_ok ti155 (x := r') (v := .agg #[slV s8, .int .i64 ((r.2.kept + lo : Nat) : Int)]) (ty := 155) hS8' hof (by
        show bsV Pr 155 1 [(0, .agg #[slV s8, .int .i64 ((r.2.kept + lo : Nat) : Int)])] = some [slV s8, .int .i64 ((r.2.kept + lo : Nat) : Int)]
        generalize ((r.2.kept + lo : Nat) : Int) = z
        kernel_rfl) (by omega) (by unfold maxLen; omega)
      refine ⟨s9, w9, h9, s10, w10, h10, ⟨by omega, by omega⟩, x.1, hat7 (j := 0) (v := .string x.1) (t := 9) rfl (by kernel_rfl) hS10 (fun c hc => by
        have := hIC c hc
        simp only [List.mem_append, List.mem_cons] at this ⊢
        rcases this with h | h
        · exact .inr (.inr (.inr (.inr (.inr (.inr (.inr (.inl h)))))))
        · exact .inr (.inr (.inr (.inr (.inr (.inr (.inr (.inr h)))))))), ?_⟩
      have hS10' : Sep E w10 (CN ++ (C10 ++ (G10 ++ (C8 ++ (C6 ++ (Q :: (G ++ (C ++ F)))))))) := hS10.weak (by intro f; simp only [ms_append, ms_cons, ms_nil]; omega)
      obtain ⟨s11, w11, h11, s12, w12, C12, G12, h12, ho12, hS12⟩ := Sep.pushG encN_ok ti156 (x := (x.1, i)) (v := .agg #[.string x.1, .int .i64 (i : Int)]) (ty := 156) hS10' hon (bsN (x.1, i)) (by omega) (by unfold maxLen; omega)
      refine ⟨s11, w11, h11, s12, w12, h12, nm.length - (i + 1), by omega, i + 1, fl ++ [r'], C10, C12, G12 ++ (G10 ++ (C8 ++ (C6 ++ (Q :: G)))), by omega, rfl, by rw [w64 (by omega) (by omega)]; rfl, ?_, fun y hy => ?_, ho10, ?_, hS12.weak (by intro f; simp only [ms_append, ms_cons, ms_nil]; omega)⟩
      · rw [List.map_append, hfl2, take_at hcx]
        rfl
      · rcases List.mem_append.1 hy with hy | hy
        · exact (hfb y hy).mono fun c hc => by simp [hc]
        · rw [List.mem_singleton] at hy
          subst hy
          exact ho8.rds.mono fun c hc => by simp [hc]
      · rw [take_at hnx]
        exact ho12
    · have h4 : i = nm.length := by simp at h4; omega
      subst h4
      rw [take_all (by rw [MDisk.crashed_len]; exact Nat.le_refl _)] at hfl2
      rw [take_all (by rw [MDisk.numbered_len]; exact Nat.le_refl _)] at hon
      have hS4 : Sep E w3 (rChunkD M d R.sf R.sn R.sk R.sc R.lf :: (CF ++ (CN ++ (G ++ (C ++ (wC :: (R.CF ++ L))))))) := hS3.weak (by intro f; simp only [Y, F, RS.chunks, ms_append, ms_cons, ms_nil]; omega)
      obtain ⟨w5, h5, hS5⟩ := Sep.store (cs := [slV R.sf, slV R.sn, slV R.sk, slV R.sc, .int .i64 (M.room : Int), .bool M.down, .bool M.doomed, .int .i64 R.lf]) (o := 0) (n := 1) (v := slV sfl) (t := 155) hS4 (by kernel_rfl) rfl (by simp) (by simp [Value.cells, Value.oneCell'])
      refine ⟨w5, h5, ?_⟩
      obtain ⟨w6, h6, hS6⟩ := Sep.store (cs := [slV sfl, slV R.sn, slV R.sk, slV R.sc, .int .i64 (M.room : Int), .bool M.down, .bool M.doomed, .int .i64 R.lf]) (o := 1) (n := 1) (v := slV snm) (t := 156) hS5 (by kernel_rfl) rfl (by simp) (by simp [Value.cells, Value.oneCell'])
      refine ⟨w6, h6, ?_⟩
      have hS6 : Sep E w6 (rChunkD M d sfl snm R.sk R.sc R.lf :: (CF ++ (CN ++ (G ++ (C ++ (wC :: (R.CF ++ L))))))) := hS6
      obtain ⟨s7, w7, C7, h7, ho7, hS7⟩ := Sep.litG0 (α := ByteArray × Nat) (enc := encN) ti156 hS6 (by kernel_rfl)
      obtain ⟨s8, w8, C8, h8, ho8, hS8⟩ := Sep.appG (ys := MDisk.numbered 0 nm) (ty := 156) encN_ok ti156 hS7 ho7 (hon.rds.mono fun c hc => by simp [hc]) (by rw [MDisk.numbered_len]; simp; omega) (by rw [MDisk.numbered_len]; simp; unfold maxLen; omega)
      refine ⟨s7, w7, h7, s8, w8, h8, ?_⟩
      rw [List.nil_append] at ho8
      have hS8' : Sep E w8 (rChunkD M d sfl snm R.sk R.sc R.lf :: (C8 ++ (CF ++ (CN ++ (G ++ (C ++ (wC :: (R.CF ++ L)))))))) := hS8.weak (by intro f; simp only [ms_append, ms_cons, ms_nil]; omega)
      obtain ⟨w9, h9, hS9⟩ := Sep.store (cs := [slV sfl, slV snm, slV R.sk, slV R.sc, .int .i64 (M.room : Int), .bool M.down, .bool M.doomed, .int .i64 R.lf]) (o := 2) (n := 1) (v := slV s8) (t := 156) hS8' (by kernel_rfl) rfl (by simp) (by simp [Value.cells, Value.oneCell'])
      refine ⟨w9, h9, ?_⟩
      obtain ⟨w10, h10, hS10⟩ := Sep.store (cs := [slV sfl, slV snm, slV s8, slV R.sc, .int .i64 (M.room : Int), .bool M.down, .bool M.doomed, .int .i64 R.lf]) (o := 3) (n := 1) (v := .slice none 0 0) (t := 157) hS9 (by kernel_rfl) rfl (by simp) (by simp [Value.cells, Value.oneCell'])
      refine ⟨w10, h10, ?_⟩
      obtain ⟨w11, h11, hS11⟩ := Sep.store (cs := [slV sfl, slV snm, slV s8, .slice none 0 0, .int .i64 (M.room : Int), .bool M.down, .bool M.doomed, .int .i64 R.lf]) (o := 5) (n := 1) (v := .bool false) (t := 4) hS10 (by kernel_rfl) rfl (by simp) (by simp [Value.cells, Value.oneCell'])
      refine ⟨w11, h11, ?_⟩
      obtain ⟨w12, h12, hS12⟩ := Sep.store (cs := [slV sfl, slV snm, slV s8, .slice none 0 0, .int .i64 (M.room : Int), .bool false, .bool M.doomed, .int .i64 R.lf]) (o := 6) (n := 1) (v := .bool false) (t := 4) hS11 (by kernel_rfl) rfl (by simp) (by simp [Value.cells, Value.oneCell'])
      refine ⟨w12, h12, ⟨fl, sfl, CF, snm, s8, SV.nil, R.lf⟩, C8 ++ (CN ++ (G ++ (C ++ (wC :: R.CF)))), rfl, ⟨hfl2, fun r hr => (hfb r hr).mono fun c hc => by simp [hc], hof, hon.rds.mono fun c hc => by simp [hc], ho8.rds.mono fun c hc => by simp [hc], RdS.none _ _, fun h => by cases h⟩, ?_⟩
      have hS12 : Sep E w12 (rChunkD (⟨M.crashed ns 0 nm, MDisk.numbered 0 nm, MDisk.numbered 0 nm, [], M.room, false, false, 0⟩ : MDisk) d sfl snm s8 SV.nil R.lf :: (C8 ++ (CF ++ (CN ++ (G ++ (C ++ (wC :: (R.CF ++ L)))))))) := hS12
      exact hS12.weak (by intro f; simp only [RS.chunks, ms_append, ms_cons, ms_nil]; omega)

end Go.Proofs.Ytonjaaljnjjjcaa

/- The program's disk: Clone. Conditions: as each lemma says. -/
set_option linter.unusedVariables false
set_option linter.unusedSimpArgs false
namespace Go.Proofs.Ytonjaaljnjjjcaa
open Go Go.RowKit

structure NamesAt (nm : Names) (ord nbs : List Nat) (sees : List ByteArray) (l : List (Ent ByteArray)) (c : Nat) : Prop where
  wf : MapWf l c
  get : ∀ k, k ∈ sees → getE k l = (findN k nm).map fun i => Value.pointer (filePtr nbs (ord.idxOf i))
  none : ∀ k, k ∉ sees → getE k l = none
  here : ∀ k ∈ sees, ∀ i, findN k nm = some i → i ∈ ord

theorem NamesAt.nil (nm : Names) (ord nbs : List Nat) : NamesAt nm ord nbs [] [] 0 := ⟨MapWf.nil _, (fun k hk => by cases hk), (fun k _ => rfl), (fun k hk => by cases hk)⟩
theorem NamesAt.grow {nm : Names} {ord nbs : List Nat} {sees : List ByteArray} {l : List (Ent ByteArray)} {c : Nat} (h : NamesAt nm ord nbs sees l c) (hl : nbs.length = ord.length) (o n : List Nat) : NamesAt nm (ord ++ o) (nbs ++ n) sees l c := by
  refine ⟨h.wf, fun k hk => ?_, h.none, fun k hk i hi => List.mem_append_left _ (h.here k hk i hi)⟩
  rw [h.get k hk]
  cases hf : findN k nm with
  | none => rfl
  | some i =>
    have hi := h.here k hk i hf
    show some (Value.pointer (filePtr nbs (ord.idxOf i))) = some (Value.pointer (filePtr (nbs ++ n) ((ord ++ o).idxOf i)))
    rw [idxOf_app hi, filePtr_app (by rw [hl]; exact List.idxOf_lt_length_iff.2 hi)]
theorem NamesAt.step {nm : Names} {ord nbs : List Nat} {sees : List ByteArray} {l : List (Ent ByteArray)} {c i : Nat} {k : ByteArray} (h : NamesAt nm ord nbs sees l c) (hk : findN k nm = some i) (hi : i ∈ ord) :
    NamesAt nm ord nbs (sees ++ [k]) (setE k (.pointer (filePtr nbs (ord.idxOf i))) c l) (if (getE k l).isSome then c else c + 1) := by
  refine ⟨h.wf.set _ _, fun j hj => ?_, fun j hj => ?_, fun j hj i' hi' => ?_⟩
  · rw [getE_setE]
    by_cases hjk : j = k
    · subst hjk
      rw [if_pos rfl, hk]
      rfl
    · rw [if_neg hjk]
      rcases List.mem_append.1 hj with hj | hj
      · exact h.get j hj
      · simp at hj
        exact absurd hj hjk
  · rw [getE_setE, if_neg fun e => hj (by simp [e]), h.none j fun hm => hj (List.mem_append_left _ hm)]
  · rcases List.mem_append.1 hj with hj | hj
    · exact h.here j hj i' hi'
    · simp at hj
      subst hj
      rw [hk] at hi'
      rw [← Option.some.inj hi']
      exact hi
theorem NamesAt.done {nm : Names} {ord nbs : List Nat} {sees : List ByteArray} {l : List (Ent ByteArray)} {c : Nat} (h : NamesAt nm ord nbs sees l c) (hs : SortedN nm) (ha : ∀ x ∈ nm, x.1 ∈ sees) (hl : nbs.length = ord.length) : NameRep nbs (nm.map (ren ord)) l c := by
  have hall : ∀ k i, findN k nm = some i → k ∈ sees := fun k i hf => ha _ (mem_of_findN hf)
  refine ⟨h.wf, fun k => ?_, fun k i hf => ?_, sorted_ren hs⟩
  · rw [findN_ren]
    cases hf : findN k nm with
    | none =>
      by_cases hk : k ∈ sees
      · rw [h.get k hk, hf]
        rfl
      · rw [h.none k hk]
        rfl
    | some i =>
      rw [h.get k (hall k i hf), hf]
      rfl
  · rw [findN_ren] at hf
    cases hf2 : findN k nm with
    | none => rw [hf2] at hf; cases hf
    | some j =>
      rw [hf2] at hf
      simp only [Option.map_some, Option.some.injEq] at hf
      rw [← hf, hl]
      exact List.idxOf_lt_length_iff.2 (h.here k (hall k j hf2) j hf2)

theorem seen_all {K : Type} {l ks : List (Ent K)} (hn : (l.map (·.born)).Nodup) (hks : ∀ e ∈ ks, e ∈ l) (hall : ∀ e ∈ l, e.born ∈ ks.map (·.born)) : ∀ e ∈ l, e ∈ ks := fun e he => by
  obtain ⟨e', he', hb⟩ := List.mem_map.1 (hall e he)
  have := inj_of_nodup hn (hks e' he') he hb
  exact this ▸ he'

theorem names_seen {bs : List Nat} {nm : Names} {l ks : List (Ent ByteArray)} {c : Nat} (h : NameRep bs nm l c) (hks : ∀ e ∈ ks, e ∈ l) (hall : ∀ e ∈ l, e.born ∈ ks.map (·.born)) : ∀ x ∈ nm, x.1 ∈ ks.map (·.k) := fun x hx => by
  have hg := h.get x.1
  rw [findN_mem h.sorted hx] at hg
  obtain ⟨e, he, hk, _⟩ := mem_of_getE hg
  exact List.mem_map.2 ⟨e, seen_all h.wf.borns hks hall e he, hk⟩

/-- What has been cloned. -/
structure CSt (M : MDisk) (D : DS) (I : List Chunk) (ord : List Nat) (nfs : List FRec) (l : List (Ent (Option Nat))) (c : Nat) : Prop where
  own : OwnAt D.bs ord (nfs.map (·.b)) l c
  fs : nfs.map (·.f) = ord.map M.fileAt
  rd : ∀ r ∈ nfs, RdB I r.s r.f.bytes

theorem chs_grow {ord nbs : List Nat} (hl : nbs.length = ord.length) (o n : List Nat) : ∀ {l : List MChange}, (∀ c ∈ l, c.new ≠ noName → c.file ∈ ord) → (l.map (renC (ord ++ o))).flatMap (chV (nbs ++ n)) = (l.map (renC ord)).flatMap (chV nbs)
  | [], _ => rfl
  | c :: l, h => by
    rw [List.map_cons, List.map_cons, List.flatMap_cons, List.flatMap_cons, chs_grow hl o n fun c' hc' => h c' (List.mem_cons_of_mem _ hc')]
    congr 1
    show [Value.string c.gone, .string c.new, .pointer (if c.new = noName then none else filePtr (nbs ++ n) (if c.new = noName then c.file else (ord ++ o).idxOf c.file))] = [Value.string c.gone, .string c.new, .pointer (if c.new = noName then none else filePtr nbs (if c.new = noName then c.file else ord.idxOf c.file))]
    by_cases hn : c.new = noName
    · simp only [hn, if_true]
    · have hm := h c List.mem_cons_self hn
      simp only [hn, if_false]
      rw [idxOf_app hm, filePtr_app (by rw [hl]; exact List.idxOf_lt_length_iff.2 hm)]

theorem z140 : (Pr.info? 140).bind (·.zero) = some (.agg #[.map none, .map none, .slice none 0 0, .int .i64 0, .bool false, .bool false, .int .i64 0]) := by kernel_rfl
theorem z170 : (Pr.info? 170).bind (·.zero) = some (.map none) := by kernel_rfl
theorem bs138 (g n : ByteArray) (p : Option Addr) : bsV Pr 138 1 [(0, .agg #[.string g, .string n, .pointer p])] = some [.string g, .string n, .pointer p] := by kernel_rfl

/-- Clone. -/
theorem k42 {E w : World} {L I : List Chunk} {M : MDisk} {D : DS} {d n b : Nat} (hS : Sep E w (D.chunks M d ++ L)) (hD : DRep D M I) (hg : M.Good) (hm : M.Small n b) (hn : n ≤ 1000000) :
    Calls Pr 42 #[.pointer (some ⟨d, 0, none⟩)] w fun e w' => ∃ (D' : DS) (x : Nat) (ord : List Nat) (C : List Chunk), e = .returned (.pointer (some ⟨x, 0, none⟩)) ∧ Covers M ord ∧ DRep D' (M.renum ord) I ∧ Sep E w' (D'.chunks (M.renum ord) x ++ (D.chunks M d ++ (C ++ L))) := by
  refine call42 ?_
  unfold ir42
  refine brc_false rfl ?_
  have hnod := DS.nodup hS
  have hbl := bs_len hD
  have hcm := small_ch hm
  let F := D.chunks M d ++ L
  have md : dChunk M d D.mn D.mq D.cs ∈ F := List.mem_append_left _ List.mem_cons_self
  have mdd : ∀ {Q : List Chunk}, (∀ c ∈ F, c ∈ Q) → dChunk M d D.mn D.mq D.cs ∈ Q := fun h => h _ md
  have hFF : ∀ x ∈ D.fs.map fChunk, x ∈ F := fun x hx => by simp [F, DS.chunks, hx]
  refine ⟨some D.mn, some D.mq, D.cs, (M.room : Int), M.down, M.doomed, (M.left : Int), hS.loadS (b := d) (o := 0) (n := 7) md (by kernel_rfl) (by kernel_rfl) rfl (by simp), ?_⟩
  obtain ⟨x, w1, h1, hS1⟩ := hS.alloc (t := 140) z140
  refine ⟨_, w1, h1, ?_⟩
  obtain ⟨w2, h2, hS2⟩ := Sep.store (cs := [.map none, .map none, .slice none 0 0, .int .i64 0, .bool false, .bool false, .int .i64 0]) (o := 0) (n := 7) (v := .agg #[.map (some D.mn), .map (some D.mq), slV D.cs, .int .i64 (M.room : Int), .bool M.down, .bool M.doomed, .int .i64 (M.left : Int)]) (t := 140) hS1 (by kernel_rfl) rfl (by simp) (by simp [Value.cells, Value.oneCell'])
  refine ⟨w2, h2, ?_⟩
  have hS2 : Sep E w2 (dChunk M x D.mn D.mq D.cs :: F) := hS2
  obtain ⟨m3, w3, h3, hS3⟩ := hS2.makeMap (kv := kvO) 170
  refine ⟨m3, w3, h3, ?_⟩
  obtain ⟨q, w4, h4, hS4⟩ := hS3.alloc (t := 170) z170
  refine ⟨_, w4, h4, ?_⟩
  obtain ⟨w5, h5, hS5⟩ := Sep.store (cs := [.map none]) (o := 0) (n := 1) (v := .map (some m3)) (t := 170) hS4 (by kernel_rfl) rfl (by simp) (by simp [Value.cells, Value.oneCell'])
  refine ⟨w5, h5, ?_⟩
  have hS5 : Sep E w5 (cellM q m3 :: (ownM m3 [] 0 :: (dChunk M x D.mn D.mq D.cs :: F))) := hS5
  obtain ⟨m4, w6, h6, hS6⟩ := hS5.makeMap (kv := Value.string) 137
  refine ⟨m4, w6, h6, ?_⟩
  obtain ⟨m5, w7, h7, hS7⟩ := hS6.makeMap (kv := Value.string) 137
  refine ⟨m5, w7, h7, ?_⟩
  have hS7' : Sep E w7 (dChunk M x D.mn D.mq D.cs :: (strM m4 [] 0 :: strM m5 [] 0 :: ownM m3 [] 0 :: cellM q m3 :: F)) := Sep.weak (L := strM m5 [] 0 :: strM m4 [] 0 :: (cellM q m3 :: (ownM m3 [] 0 :: (dChunk M x D.mn D.mq D.cs :: F)))) hS7 (by intro f; simp only [ms_append, ms_cons, ms_nil]; omega)
  obtain ⟨w8, h8, hS8⟩ := Sep.store (cs := [.map (some D.mn), .map (some D.mq), slV D.cs, .int .i64 (M.room : Int), .bool M.down, .bool M.doomed, .int .i64 (M.left : Int)]) (o := 0) (n := 1) (v := .map (some m4)) (t := 137) hS7' (by kernel_rfl) rfl (by simp) (by simp [Value.cells, Value.oneCell'])
  refine ⟨w8, h8, ?_⟩
  obtain ⟨w9, h9, hS9⟩ := Sep.store (cs := [.map (some m4), .map (some D.mq), slV D.cs, .int .i64 (M.room : Int), .bool M.down, .bool M.doomed, .int .i64 (M.left : Int)]) (o := 1) (n := 1) (v := .map (some m5)) (t := 137) hS8 (by kernel_rfl) rfl (by simp) (by simp [Value.cells, Value.oneCell'])
  refine ⟨w9, h9, ?_⟩
  obtain ⟨w10, h10, hS10⟩ := Sep.store (cs := [.map (some m4), .map (some m5), slV D.cs, .int .i64 (M.room : Int), .bool M.down, .bool M.doomed, .int .i64 (M.left : Int)]) (o := 2) (n := 1) (v := .slice none 0 0) (t := 138) hS9 (by kernel_rfl) rfl (by simp) (by simp [Value.cells, Value.oneCell'])
  refine ⟨w10, h10, ?_⟩
  let dX : SV → Chunk := fun s => dChunk M x m4 m5 s
  have hS10 : Sep E w10 (dX SV.nil :: (strM m4 [] 0 :: strM m5 [] 0 :: ownM m3 [] 0 :: cellM q m3 :: F)) := hS10
  clear hS1 hS2 hS3 hS4 hS5 hS6 hS7 hS7' hS8 hS9 h1 h2 h3 h4 h5 h6 h7 h8 h9 h10
  refine ⟨some D.mn, hS10.load (b := d) (o := 0) (mdd fun c hc => by simp [hc]) rfl (by kernel_rfl), ?_⟩
  obtain ⟨it, w11, h11, hS11⟩ := hS10.range (mt := 137) (m := D.mn) (l := D.ln) (c := D.cn) (kv := Value.string) (by simp [F, DS.chunks]) u137
  refine ⟨_, w11, h11, ?_⟩
  -- the names as they are
  refine ⟨fun k σ w => ∃ (ks : List (Ent ByteArray)) (ord : List Nat) (nfs : List FRec) (ls : List (Ent (Option Nat))) (cs : Nat) (l4 : List (Ent ByteArray)) (c4 : Nat), (∀ e ∈ ks, e ∈ D.ln) ∧ k = D.ln.length - cnt (ks.map (·.born)) D.ln ∧ CSt M D I ord nfs ls cs ∧ NamesAt M.now ord (nfs.map (·.b)) (ks.map (·.k)) l4 c4 ∧
    Sep E w (iterC it D.mn D.cn (ks.map (·.born)) :: (ownM m3 ls cs :: (cellM q m3 :: (nfs.map fChunk ++ (dX SV.nil :: strM m4 l4 c4 :: strM m5 [] 0 :: F))))), _, ⟨[], [], [], [], 0, [], 0, (fun e he => by cases he), rfl, ⟨OwnAt.nil _, rfl, fun r hr => by cases hr⟩, NamesAt.nil _ _ _, Sep.weak (L := iterC it D.mn D.cn [] :: (dX SV.nil :: (strM m4 [] 0 :: strM m5 [] 0 :: ownM m3 [] 0 :: cellM q m3 :: F))) hS11 (by intro f; simp only [List.map_nil, ms_append, ms_cons, ms_nil]; omega)⟩, ?_⟩
  clear hS10 hS11 h11
  rintro k σ w12 ⟨ks, ord, nfs, ls, cs, l4, c4, hks, rfl, hC, hN, hS12⟩ _
  dsimp only
  refine hS12.next (m := D.mn) (l := D.ln) (kv := Value.string) (by simp [F, DS.chunks]) hD.now.wf.born (fun hall => ?_) (fun e he hes w14 hS14 => ?_)
  · -- the names that are kept
    have hN1 := names_seen hD.now hks hall
    clear hks
    generalize ks.map (·.k) = sees at *
    let G1 : List Chunk := [iterC it D.mn D.cn (ks.map (·.born))]
    refine ⟨some D.mq, hS12.load (b := d) (o := 1) (mdd fun c hc => by simp [hc]) rfl (by kernel_rfl), ?_⟩
    obtain ⟨it2, w15, h15, hS15⟩ := hS12.range (mt := 137) (m := D.mq) (l := D.lk) (c := D.ck) (kv := Value.string) (by simp [F, DS.chunks]) u137
    refine ⟨_, w15, h15, ?_⟩
    refine ⟨fun k σ w => ∃ (ks : List (Ent ByteArray)) (ord : List Nat) (nfs : List FRec) (ls : List (Ent (Option Nat))) (cs : Nat) (l5 : List (Ent ByteArray)) (c5 : Nat), (∀ e ∈ ks, e ∈ D.lk) ∧ k = D.lk.length - cnt (ks.map (·.born)) D.lk ∧ CSt M D I ord nfs ls cs ∧ NamesAt M.now ord (nfs.map (·.b)) sees l4 c4 ∧ NamesAt M.kept ord (nfs.map (·.b)) (ks.map (·.k)) l5 c5 ∧
      Sep E w (iterC it2 D.mq D.ck (ks.map (·.born)) :: (ownM m3 ls cs :: (cellM q m3 :: (nfs.map fChunk ++ (dX SV.nil :: strM m4 l4 c4 :: strM m5 l5 c5 :: (G1 ++ F)))))), _, ⟨[], ord, nfs, ls, cs, [], 0, (fun e he => by cases he), rfl, hC, hN, NamesAt.nil _ _ _, Sep.weak (L := iterC it2 D.mq D.ck [] :: (iterC it D.mn D.cn (ks.map (·.born)) :: (ownM m3 ls cs :: (cellM q m3 :: (nfs.map fChunk ++ (dX SV.nil :: strM m4 l4 c4 :: strM m5 [] 0 :: F)))))) hS15 (by intro f; simp only [G1, List.map_nil, ms_append, ms_cons, ms_nil]; omega)⟩, ?_⟩
    clear hS12 hS15 h15 hC hN
    clear_value G1
    clear ord nfs ls cs hall
    rintro k σ w16 ⟨ks, ord, nfs, ls, cs, l5, c5, hks, rfl, hC, hN, hK, hS16⟩ _
    dsimp only
    refine hS16.next (m := D.mq) (l := D.lk) (kv := Value.string) (by simp [F, DS.chunks]) hD.kept.wf.born (fun hall => ?_) (fun e he hes w18 hS18 => ?_)
    · -- the changes
      have hK1 := names_seen hD.kept hks hall
      clear hks
      generalize ks.map (·.k) = sees2 at *
      let G2 : List Chunk := iterC it2 D.mq D.ck (ks.map (·.born)) :: G1
      refine ⟨D.cs, hS16.load (b := d) (o := 2) (mdd fun c hc => by simp [hc]) rfl (by kernel_rfl), ?_⟩
      have hcl : D.cs.len = M.changes.length := RdG.size (chV_ok D.bs) hD.own.rds
      refine ⟨fun k σ w => ∃ (j : Nat) (ord : List Nat) (nfs : List FRec) (ls : List (Ent (Option Nat))) (cs : Nat) (s : SV) (CC G : List Chunk), j ≤ M.changes.length ∧ k = M.changes.length - j ∧ σ = ((j : Int), ()) ∧ CSt M D I ord nfs ls cs ∧ NamesAt M.now ord (nfs.map (·.b)) sees l4 c4 ∧ NamesAt M.kept ord (nfs.map (·.b)) sees2 l5 c5 ∧ (∀ c ∈ M.changes.take j, c.new ≠ noName → c.file ∈ ord) ∧ Own 153 3 s (((M.changes.take j).map (renC ord)).flatMap (chV (nfs.map (·.b)))) CC ∧
        Sep E w (ownM m3 ls cs :: (cellM q m3 :: (nfs.map fChunk ++ (dX s :: strM m4 l4 c4 :: strM m5 l5 c5 :: (CC ++ (G ++ (G2 ++ F))))))), M.changes.length, ⟨0, ord, nfs, ls, cs, SV.nil, [], [], Nat.zero_le _, rfl, rfl, hC, hN, hK, (fun c hc => by simp at hc), Own.nil _ _, hS16.weak (by intro f; simp only [G2, ms_append, ms_cons, ms_nil]; omega)⟩, ?_⟩
      clear hS16 hC hN hK
      clear_value G2
      clear ord nfs ls cs hall
      rintro k σ w19 ⟨j, ord, nfs, ls, cs, s, CC, G, hj, rfl, rfl, hC, hN, hK, hch, ho, hS19⟩ _
      dsimp only
      refine brc_intro (fun h => ?_) (fun h => ?_)
      · have h : j < M.changes.length := by simp at h; omega
        have hx : M.changes[j]? = some M.changes[j] := List.getElem?_eq_getElem h
        generalize M.changes[j] = c at hx
        have hcm' : c ∈ M.changes := List.mem_of_getElem? hx
        obtain ⟨a, ha, hat0, _⟩ := RdG.at_ (chV_ok D.bs) hD.own.rds hx
        rw [ha]
        generalize hp : (if c.new = noName then none else filePtr D.bs c.file) = p
        have hcv : chV D.bs c = [.string c.gone, .string c.new, .pointer p] := by simp [chV, hp]
        rw [hcv] at hat0
        refine ⟨⟨by omega, by omega⟩, c.gone, c.new, p, hat0 (t := 153) (by kernel_rfl) (by kernel_rfl) hS19 (fun c hc => by simp [F, DS.chunks, hc]), ?_⟩
        obtain ⟨y, w20, h20, hS20⟩ := hS19.alloc (t := 153) z153
        refine ⟨_, w20, h20, ?_⟩
        obtain ⟨w21, h21, hS21⟩ := Sep.store (cs := [.string ByteArray.empty, .string ByteArray.empty, .pointer none]) (o := 0) (n := 3) (v := .agg #[.string c.gone, .string c.new, .pointer p]) (t := 153) hS20 (by kernel_rfl) rfl (by simp) (by simp [Value.cells, Value.oneCell'])
        let yC : Option Addr → Chunk := fun p => (y, .cells #[.string c.gone, .string c.new, .pointer p] 153 (0, 0))
        let Z : List Chunk := dX s :: strM m4 l4 c4 :: strM m5 l5 c5 :: (CC ++ (G ++ (G2 ++ F)))
        have hS21 : Sep E w21 (yC p :: (ownM m3 ls cs :: (cellM q m3 :: (nfs.map fChunk ++ Z)))) := hS21
        refine ⟨w21, h21, p, hS21.load (b := y) (o := 2) List.mem_cons_self rfl (by kernel_rfl), ?_⟩
        -- one more change
        have fin : ∀ (o : List Nat) (nf : List FRec) (ls' : List (Ent (Option Nat))) (cs' : Nat) (w22 : World) (p3 : Option Addr), CSt M D I (ord ++ o) (nfs ++ nf) ls' cs' → (c.new ≠ noName → c.file ∈ ord ++ o) → p3 = (if c.new = noName then none else filePtr ((nfs ++ nf).map (·.b)) ((ord ++ o).idxOf c.file)) → Sep E w22 (ownM m3 ls' cs' :: (cellM q m3 :: ((nfs ++ nf).map fChunk ++ (yC p :: Z)))) →
            ∃ (w23 : World), Sem.run Pr (Instr.storeAt 141 (.pointer (some (Addr.add ⟨y, 0, none⟩ 2))) (.pointer p3)) w22 = .ok () w23 ∧ ∃ (s3 : SV), At Pr w23 (loadVar 138 (Addr.add ⟨x, 0, none⟩ 2)) (.slice s3.a s3.len s3.cap) ∧ ∃ (str3 : ByteArray) (str4 : ByteArray) (p4 : Option Addr), At Pr w23 (loadVar 153 ⟨y, 0, none⟩) (.agg #[(.string str3), (.string str4), (.pointer p4)]) ∧
              ∃ (s4 : SV) (w24 : World), Sem.run Pr (Instr.buildSlice 138 1 #[(0, (.agg #[(.string str3), (.string str4), (.pointer p4)]))]) w23 = .ok (.slice s4.a s4.len s4.cap) w24 ∧ ∃ (s5 : SV) (w25 : World), Sem.run Pr (Builtin.append_ #[138, 138] 138 #[(.slice s3.a s3.len s3.cap), (.slice s4.a s4.len s4.cap)]) w24 = .ok (.slice s5.a s5.len s5.cap) w25 ∧
                ∃ (w26 : World), Sem.run Pr (Instr.storeAt 138 (.pointer (some (Addr.add ⟨x, 0, none⟩ 2))) (.slice s5.a s5.len s5.cap)) w25 = .ok () w26 ∧
                  ∃ k', k' < M.changes.length - j ∧ ∃ (j' : Nat) (ord : List Nat) (nfs : List FRec) (ls : List (Ent (Option Nat))) (cs : Nat) (s : SV) (CC G : List Chunk), j' ≤ M.changes.length ∧ k' = M.changes.length - j' ∧ (IntKind.wrap .i64 ((j : Int) + 1), ()) = ((j' : Int), ()) ∧ CSt M D I ord nfs ls cs ∧ NamesAt M.now ord (nfs.map (·.b)) sees l4 c4 ∧ NamesAt M.kept ord (nfs.map (·.b)) sees2 l5 c5 ∧ (∀ c ∈ M.changes.take j', c.new ≠ noName → c.file ∈ ord) ∧ Own 153 3 s (((M.changes.take j').map (renC ord)).flatMap (chV (nfs.map (·.b)))) CC ∧
                    Sep E w26 (ownM m3 ls cs :: (cellM q m3 :: (nfs.map fChunk ++ (dX s :: strM m4 l4 c4 :: strM m5 l5 c5 :: (CC ++ (G ++ (G2 ++ F))))))) := by
          intro o nf ls' cs' w22 p3 hC' hcf hp3 hS22
          have hS22' : Sep E w22 (yC p :: (ownM m3 ls' cs' :: (cellM q m3 :: ((nfs ++ nf).map fChunk ++ Z)))) := hS22.weak (by intro f; simp only [ms_append, ms_cons, ms_nil]; omega)
          obtain ⟨w23, h23, hS23⟩ := Sep.store (cs := [.string c.gone, .string c.new, .pointer p]) (o := 2) (n := 1) (v := .pointer p3) (t := 141) hS22' (by kernel_rfl) rfl (by simp) (by simp [Value.cells, Value.oneCell'])
          have hS23 : Sep E w23 (yC p3 :: (ownM m3 ls' cs' :: (cellM q m3 :: ((nfs ++ nf).map fChunk ++ Z)))) := hS23
          have mx : dX s ∈ yC p3 :: (ownM m3 ls' cs' :: (cellM q m3 :: ((nfs ++ nf).map fChunk ++ Z))) := by simp [Z]
          refine ⟨w23, h23, s, hS23.load (b := x) (o := 2) mx rfl (by kernel_rfl), c.gone, c.new, p3, hS23.loadS (b := y) (o := 0) (n := 3) List.mem_cons_self (by kernel_rfl) (by kernel_rfl) rfl (by simp), ?_⟩
          have hgrow := chs_grow hC.own.len o (nf.map (·.b)) hch
          rw [← hgrow, ← List.map_append] at ho
          have hS23' : Sep E w23 (CC ++ (yC p3 :: (ownM m3 ls' cs' :: (cellM q m3 :: ((nfs ++ nf).map fChunk ++ (dX s :: strM m4 l4 c4 :: strM m5 l5 c5 :: (G ++ (G2 ++ F)))))))) := hS23.weak (by intro f; simp only [Z, ms_append, ms_cons, ms_nil]; omega)
          have hpv : chV ((nfs ++ nf).map (·.b)) (renC (ord ++ o) c) = [.string c.gone, .string c.new, .pointer p3] := by
            rw [hp3]
            unfold chV renC
            by_cases hw : c.new = noName
            · simp only [hw, if_true]
            · simp only [hw, if_false]
          obtain ⟨s4, w24, h24, s5, w25, CC', G', h25, ho25, hS25⟩ := Sep.pushG (chV_ok ((nfs ++ nf).map (·.b))) ti138 (x := renC (ord ++ o) c) (v := .agg #[.string c.gone, .string c.new, .pointer p3]) (ty := 138) hS23' ho (by rw [hpv]; exact bs138 _ _ _) (by simp; omega) (by simp; unfold maxLen; omega)
          refine ⟨s4, w24, h24, s5, w25, h25, ?_⟩
          have hS25' : Sep E w25 (dX s :: (CC' ++ (G' ++ (yC p3 :: (ownM m3 ls' cs' :: (cellM q m3 :: ((nfs ++ nf).map fChunk ++ (strM m4 l4 c4 :: strM m5 l5 c5 :: (G ++ (G2 ++ F)))))))))) := hS25.weak (by intro f; simp only [ms_append, ms_cons, ms_nil]; omega)
          obtain ⟨w26, h26, hS26⟩ := Sep.store (cs := [.map (some m4), .map (some m5), slV s, .int .i64 (M.room : Int), .bool M.down, .bool M.doomed, .int .i64 (M.left : Int)]) (o := 2) (n := 1) (v := slV s5) (t := 138) hS25' (by kernel_rfl) rfl (by simp) (by simp [Value.cells, Value.oneCell'])
          have hS26 : Sep E w26 (dX s5 :: (CC' ++ (G' ++ (yC p3 :: (ownM m3 ls' cs' :: (cellM q m3 :: ((nfs ++ nf).map fChunk ++ (strM m4 l4 c4 :: strM m5 l5 c5 :: (G ++ (G2 ++ F)))))))))) := hS26
          have hNg := hN.grow hC.own.len o (nf.map (·.b))
          have hKg := hK.grow hC.own.len o (nf.map (·.b))
          rw [← List.map_append] at hNg hKg
          refine ⟨w26, h26, M.changes.length - (j + 1), by omega, j + 1, ord ++ o, nfs ++ nf, ls', cs', s5, CC', G' ++ (yC p3 :: G), by omega, rfl, by rw [w64 (by omega) (by omega)]; rfl, hC', hNg, hKg, fun c' hc' hn' => ?_, ?_, hS26.weak (by intro f; simp only [ms_append, ms_cons, ms_nil]; omega)⟩
          · rw [take_at hx] at hc'
            rcases List.mem_append.1 hc' with hc' | hc'
            · exact List.mem_append_left _ (hch c' hc' hn')
            · rw [List.mem_singleton] at hc'
              subst hc'
              exact hcf hn'
          · have hmm : (M.changes.take (j + 1)).map (renC (ord ++ o)) = (M.changes.take j).map (renC (ord ++ o)) ++ [renC (ord ++ o) c] := by rw [take_at hx, List.map_append]; rfl
            rw [hmm]
            exact ho25
        by_cases hw : c.new = noName
        · rw [if_pos hw] at hp
          subst hp
          have hS21' : Sep E w21 (ownM m3 ls cs :: (cellM q m3 :: (nfs.map fChunk ++ (yC none :: Z)))) := hS21.weak (by intro f; simp only [ms_append, ms_cons, ms_nil]; omega)
          have hpl : ∀ i (h : i < D.bs.length), Plain w21 D.bs[i] := fun i h => by
            have hm : D.bs[i] ∈ D.fs.map (·.b) := List.getElem_mem h
            obtain ⟨r', hr', e⟩ := List.mem_map.1 hm
            rw [← e]
            exact hS21'.plain (cs := #[slV r'.s, .int .i64 (r'.f.kept : Int)]) (T := 146) (by
              have := hFF (fChunk r') (List.mem_map.2 ⟨r', hr', rfl⟩)
              have this : (r'.b, Obj.cells #[slV r'.s, .int .i64 (r'.f.kept : Int)] 146 (0, 0)) ∈ F := this
              simp [Z, this])
          have hcall := k106n hS21' hC.own hpl
          refine ⟨hcall.1, Calls.mono (R := _) hcall.2 ?_⟩
          rintro _ w22 ⟨rfl, rfl⟩
          refine ⟨none, rfl, ?_⟩
          have := fin [] [] ls cs w22 none (by simpa only [List.append_nil] using hC) (fun hn => absurd hw hn) (by rw [if_pos hw]) (by simpa only [List.append_nil] using hS21')
          exact this
        · rw [if_neg hw] at hp
          subst hp
          have hS21' : Sep E w21 (ownM m3 ls cs :: (cellM q m3 :: (nfs.map fChunk ++ (yC (filePtr D.bs c.file) :: Z)))) := hS21.weak (by intro f; simp only [ms_append, ms_cons, ms_nil]; omega)
          have hcall := k106 hS21' hD (fun x hx => by simp [Z, hFF x hx]) hnod hC.own hC.fs hC.rd (hD.chOk c hcm' hw)
          refine ⟨hcall.1, Calls.mono (R := _) hcall.2 ?_⟩
          rintro _ w22 ⟨o, nf, ls', cs', rfl, hio, hO', hf', hr', hS22⟩
          refine ⟨_, rfl, ?_⟩
          exact fin o nf ls' cs' w22 _ ⟨hO', hf', hr'⟩ (fun _ => hio) (by rw [if_neg hw]) hS22
      · have h : j = M.changes.length := by simp at h; omega
        subst h
        rw [List.take_length] at hch ho
        have hcov : Covers M ord := by
          refine ⟨hC.own.nodup, fun i hi => by rw [← hbl]; exact hC.own.lt i hi, fun x hx => hN.here _ (hN1 x hx) _ (findN_mem hD.now.sorted hx), fun x hx => hK.here _ (hK1 x hx) _ (findN_mem hD.kept.sorted hx), hch⟩
        refine ⟨⟨nfs, m4, m5, l4, l5, c4, c5, s, CC⟩, x, ord, ownM m3 ls cs :: cellM q m3 :: (G ++ G2), rfl, hcov, ⟨hC.fs, hC.rd, hN.done hD.now.sorted hN1 hC.own.len, hK.done hD.kept.sorted hK1 hC.own.len, ho, fun c hc hn => ?_⟩, ?_⟩
        · obtain ⟨c', hc', rfl⟩ := List.mem_map.1 hc
          have hn : c'.new ≠ noName := hn
          show (if c'.new = noName then c'.file else ord.idxOf c'.file) < (nfs.map (·.b)).length
          rw [if_neg hn, hC.own.len]
          exact List.idxOf_lt_length_iff.2 (hch c' hc' hn)
        · have : Sep E w19 (DS.chunks ⟨nfs, m4, m5, l4, l5, c4, c5, s, CC⟩ M x ++ (D.chunks M d ++ ((ownM m3 ls cs :: cellM q m3 :: (G ++ G2)) ++ L))) := hS19.weak (by
            have e : ∀ f : Chunk → Nat, ms f (DS.chunks ⟨nfs, m4, m5, l4, l5, c4, c5, s, CC⟩ M x) = f (dX s) + (f (strM m4 l4 c4) + (f (strM m5 l5 c5) + (ms f CC + ms f (nfs.map fChunk)))) := fun f => by
              unfold DS.chunks
              rw [ms_cons, ms_cons, ms_cons, ms_append]
            intro f
            simp only [F, e, ms_append, ms_cons, ms_nil]
            omega)
          exact this
    · obtain ⟨i, hf, hi, hv⟩ := hD.kept.ent he
      have hent := hS18.entry (it := it2) (m := D.mq) (l := D.lk) (kv := Value.string) List.mem_cons_self (by simp [F, DS.chunks]) he hD.kept.wf.borns
      rw [hv] at hent
      refine ⟨e.k, _, hent, fun w => Sep E w [dX SV.nil], hS18.drew.weak (by intro f; simp only [ms_append, ms_cons, ms_nil]; omega), some m5, fun w hw => hw.load (b := x) (o := 1) List.mem_cons_self rfl (by kernel_rfl), ?_⟩
      have hS18' : Sep E (World.drew w18) (ownM m3 ls cs :: (cellM q m3 :: (nfs.map fChunk ++ (iterC it2 D.mq D.ck (ks.map (·.born) ++ [e.born]) :: dX SV.nil :: strM m4 l4 c4 :: strM m5 l5 c5 :: (G1 ++ F))))) := hS18.drew.weak (by intro f; simp only [ms_append, ms_cons, ms_nil]; omega)
      have hcall := k106 hS18' hD (fun x hx => by simp [hFF x hx]) hnod hC.own hC.fs hC.rd hi
      refine ⟨hcall.1, Calls.mono (R := _) hcall.2 ?_⟩
      rintro _ w22 ⟨o, nf, ls', cs', rfl, hio, hO', hf', hr', hS22⟩
      refine ⟨_, rfl, fun w => Sep E w [dX SV.nil], fun w hw => hw, hS22.weak (by intro f; simp only [ms_append, ms_cons, ms_nil]; omega), ?_⟩
      have hS22' : Sep E w22 (strM m5 l5 c5 :: (ownM m3 ls' cs' :: (cellM q m3 :: ((nfs ++ nf).map fChunk ++ (iterC it2 D.mq D.ck (ks.map (·.born) ++ [e.born]) :: dX SV.nil :: strM m4 l4 c4 :: (G1 ++ F)))))) := hS22.weak (by intro f; simp only [ms_append, ms_cons, ms_nil]; omega)
      obtain ⟨w23, h23, hS23⟩ := hS22'.mapUpdate (mt := 137) u137 (.pointer (filePtr ((nfs ++ nf).map (·.b)) ((ord ++ o).idxOf i))) (keyOk_str u9 w22 l5 e.k)
      have hNg := hN.grow hC.own.len o (nf.map (·.b))
      have hKg := hK.grow hC.own.len o (nf.map (·.b))
      rw [← List.map_append] at hNg hKg
      have hmk : (ks ++ [e]).map (·.k) = ks.map (·.k) ++ [e.k] := by simp
      have hmb : (ks ++ [e]).map (·.born) = ks.map (·.born) ++ [e.born] := by simp
      have hKs := hKg.step (k := e.k) hf hio
      refine ⟨w23, h23, fun _ => True, trivial, _, cnt_step he hD.kept.wf.borns hes, ks ++ [e], ord ++ o, nfs ++ nf, ls', cs', _, _, fun e' he' => ?_, by rw [List.map_append]; rfl, ⟨hO', hf', hr'⟩, hNg, by rw [hmk]; exact hKs, ?_⟩
      · rcases List.mem_append.1 he' with he' | he'
        · exact hks e' he'
        · rw [List.mem_singleton] at he'
          rw [he']
          exact he
      · rw [hmb]
        exact hS23.weak (by intro f; simp only [strM, ms_append, ms_cons, ms_nil]; omega)
  · obtain ⟨i, hf, hi, hv⟩ := hD.now.ent he
    have hent := hS14.entry (it := it) (m := D.mn) (l := D.ln) (kv := Value.string) List.mem_cons_self (by simp [F, DS.chunks]) he hD.now.wf.borns
    rw [hv] at hent
    refine ⟨e.k, _, hent, fun w => Sep E w [dX SV.nil], hS14.drew.weak (by intro f; simp only [ms_append, ms_cons, ms_nil]; omega), some m4, fun w hw => hw.load (b := x) (o := 0) List.mem_cons_self rfl (by kernel_rfl), ?_⟩
    have hS14' : Sep E (World.drew w14) (ownM m3 ls cs :: (cellM q m3 :: (nfs.map fChunk ++ (iterC it D.mn D.cn (ks.map (·.born) ++ [e.born]) :: dX SV.nil :: strM m4 l4 c4 :: strM m5 [] 0 :: F)))) := hS14.drew.weak (by intro f; simp only [ms_append, ms_cons, ms_nil]; omega)
    have hcall := k106 hS14' hD (fun x hx => by simp [hFF x hx]) hnod hC.own hC.fs hC.rd hi
    refine ⟨hcall.1, Calls.mono (R := _) hcall.2 ?_⟩
    rintro _ w22 ⟨o, nf, ls', cs', rfl, hio, hO', hf', hr', hS22⟩
    refine ⟨_, rfl, fun w => Sep E w [dX SV.nil], fun w hw => hw, hS22.weak (by intro f; simp only [ms_append, ms_cons, ms_nil]; omega), ?_⟩
    have hS22' : Sep E w22 (strM m4 l4 c4 :: (ownM m3 ls' cs' :: (cellM q m3 :: ((nfs ++ nf).map fChunk ++ (iterC it D.mn D.cn (ks.map (·.born) ++ [e.born]) :: dX SV.nil :: strM m5 [] 0 :: F))))) := hS22.weak (by intro f; simp only [ms_append, ms_cons, ms_nil]; omega)
    obtain ⟨w23, h23, hS23⟩ := hS22'.mapUpdate (mt := 137) u137 (.pointer (filePtr ((nfs ++ nf).map (·.b)) ((ord ++ o).idxOf i))) (keyOk_str u9 w22 l4 e.k)
    have hNg := hN.grow hC.own.len o (nf.map (·.b))
    rw [← List.map_append] at hNg
    have hmk : (ks ++ [e]).map (·.k) = ks.map (·.k) ++ [e.k] := by simp
    have hmb : (ks ++ [e]).map (·.born) = ks.map (·.born) ++ [e.born] := by simp
    have hNs := hNg.step (k := e.k) hf hio
    refine ⟨w23, h23, fun _ => True, trivial, _, cnt_step he hD.now.wf.borns hes, ks ++ [e], ord ++ o, nfs ++ nf, ls', cs', _, _, fun e' he' => ?_, by rw [List.map_append]; rfl, ⟨hO', hf', hr'⟩, by rw [hmk]; exact hNs, ?_⟩
    · rcases List.mem_append.1 he' with he' | he'
      · exact hks e' he'
      · rw [List.mem_singleton] at he'
        rw [he']
        exact he
    · rw [hmb]
      exact hS23.weak (by intro f; simp only [strM, ms_append, ms_cons, ms_nil]; omega)

end Go.Proofs.Ytonjaaljnjjjcaa

/- What is put to its place, in plain Lean: one thing behind the other. No program in sight. -/
set_option linter.unusedVariables false
set_option linter.unusedSimpArgs false
namespace Go.Proofs.Ytonjaaljnjjjcaa
open Go

/-- One thing, and, where it went well, another. -/
def thenM (r : Int × MDisk) (f : MDisk → Int × MDisk) : Int × MDisk := if r.1 = 0 then f r.2 else r
theorem thenM_ok {r : Int × MDisk} {f : MDisk → Int × MDisk} (h : r.1 = 0) : thenM r f = f r.2 := if_pos h
theorem thenM_bad {r : Int × MDisk} {f : MDisk → Int × MDisk} (h : r.1 ≠ 0) : thenM r f = r := if_neg h

def pright (n : ByteArray) : Bool := decide (n ≠ way) && MDisk.right n

def partsF : Nat → List UInt8 → List (List UInt8)
  | 0, _ => []
  | k + 1, b => if b.isEmpty then [] else b.take 64 :: partsF k (b.drop 64)
/-- Bytes, in parts. -/
def parts (b : List UInt8) : List (List UInt8) := partsF b.length b
theorem partsF_le : ∀ (k : Nat) (b : List UInt8), b.length ≤ k → partsF k b = partsF b.length b
  | 0, b, h => by
    have : b = [] := List.eq_nil_of_length_eq_zero (by omega)
    subst this
    rfl
  | k + 1, [], h => rfl
  | k + 1, x :: b, h => by
    show (x :: b).take 64 :: partsF k ((x :: b).drop 64) = (x :: b).take 64 :: partsF b.length ((x :: b).drop 64)
    have hd : ((x :: b).drop 64).length ≤ b.length := by rw [List.length_drop, List.length_cons]; omega
    rw [List.length_cons] at h
    rw [partsF_le k _ (by omega), partsF_le b.length _ hd]
theorem parts_nil : parts [] = [] := rfl
theorem parts_cons {b : List UInt8} (h : b ≠ []) : parts b = b.take 64 :: parts (b.drop 64) := by
  cases b with
  | nil => exact absurd rfl h
  | cons x b =>
    show (x :: b).take 64 :: partsF b.length ((x :: b).drop 64) = _
    have hd : ((x :: b).drop 64).length ≤ b.length := by rw [List.length_drop, List.length_cons]; omega
    rw [partsF_le b.length _ hd]
    rfl

def pourM (M : MDisk) : List (List UInt8) → Int × MDisk
  | [] => (0, M)
  | p :: ps => thenM (M.append way p) fun M' => pourM M' ps
theorem pourM_snoc (p : List UInt8) : ∀ (l : List (List UInt8)) (M : MDisk), pourM M (l ++ [p]) = thenM (pourM M l) fun M' => M'.append way p
  | [], M => by
    show thenM (M.append way p) (fun M' => (0, M')) = thenM (0, M) _
    rw [thenM_ok (r := ((0 : Int), M)) rfl]
    unfold thenM
    split
    · rename_i h
      rw [← h]
    · rfl
  | x :: l, M => by
    show thenM (M.append way x) (fun M' => pourM M' (l ++ [p])) = thenM (thenM (M.append way x) fun M' => pourM M' l) _
    by_cases h : (M.append way x).1 = 0
    · rw [thenM_ok h, thenM_ok h, pourM_snoc p l]
    · rw [thenM_bad h, thenM_bad h, thenM_bad h]

/-- Put. -/
def putEnd (M : MDisk) (name : ByteArray) : Int × MDisk := thenM (M.sync way) fun M => thenM (M.rename way name) fun M => M.syncNames
def putM (M : MDisk) (name : ByteArray) (b : List UInt8) : Int × MDisk :=
  if pright name = false then (1, M) else thenM (startM M) fun M => thenM (pourM M (parts b)) fun M => putEnd M name

/-- Grow. -/
def madeM (M : MDisk) (name : ByteArray) : Int × MDisk :=
  if (M.create name).1 = 0 then (M.create name).2.syncNames else if (M.create name).1 = 4 then (0, (M.create name).2) else M.create name
def growM (M : MDisk) (name : ByteArray) (b : List UInt8) : Int × MDisk :=
  if pright name = false then (1, M) else thenM (madeM M name) fun M => thenM (M.append name b) fun M => M.sync name

/-- Drop: what is told, the disk, and whether something went. -/
def dropL (M : MDisk) (some : Bool) : List ByteArray → Int × MDisk × Bool
  | [] => (0, M, some)
  | n :: l => if (M.remove n).1 = 0 then dropL (M.remove n).2 true l else if (M.remove n).1 = 2 then dropL (M.remove n).2 some l else ((M.remove n).1, (M.remove n).2, some)
def dropM (M : MDisk) (l : List ByteArray) : Int × MDisk :=
  if (dropL M false l).1 ≠ 0 then ((dropL M false l).1, (dropL M false l).2.1)
  else if (dropL M false l).2.2 = true then (dropL M false l).2.1.syncNames else (0, (dropL M false l).2.1)

/-! ### What stays true -/
theorem thenM_P {P Q : MDisk → Prop} {r : Int × MDisk} {f : MDisk → Int × MDisk} (h : P r.2) (hPQ : ∀ M, P M → Q M) (hf : ∀ M, P M → Q (f M).2) : Q (thenM r f).2 := by
  unfold thenM
  split
  · exact hf _ h
  · exact hPQ _ h

theorem startM_good {M : MDisk} (h : M.Good) : (startM M).2.Good := by
  unfold startM
  split
  · exact h.remove _
  · exact (h.remove _).create _
theorem startM_small {M : MDisk} {n b : Nat} (h : M.Small n b) : (startM M).2.Small (n + 2) b := by
  unfold startM
  split
  · exact (h.remove _).mono (by omega) (Nat.le_refl _)
  · exact (h.remove _).create _
theorem pourM_good : ∀ (l : List (List UInt8)) {M : MDisk}, M.Good → (pourM M l).2.Good
  | [], _, h => h
  | p :: l, M, h => thenM_P (P := MDisk.Good) (h.append _ _) (fun _ h => h) fun M h => pourM_good l h
theorem pourM_small : ∀ (l : List (List UInt8)) {M : MDisk} {n b : Nat}, M.Small n b → (pourM M l).2.Small n (b + l.flatten.length)
  | [], _, _, _, h => h.mono (Nat.le_refl _) (by simp)
  | p :: l, M, n, b, h => by
    refine thenM_P (P := fun M => M.Small n (b + p.length)) (h.append _ _) (fun _ h => h.mono (Nat.le_refl _) (by simp)) fun M h => ?_
    exact (pourM_small l h).mono (Nat.le_refl _) (by simp; omega)
theorem parts_flat : ∀ (k : Nat) (b : List UInt8), b.length ≤ k → (parts b).flatten = b
  | 0, b, h => by
    have : b = [] := List.eq_nil_of_length_eq_zero (by omega)
    subst this
    rfl
  | k + 1, b, h => by
    by_cases hb : b = []
    · subst hb
      rfl
    · have hl : 0 < b.length := List.length_pos_iff.2 hb
      rw [parts_cons hb, List.flatten_cons, parts_flat k _ (by rw [List.length_drop]; omega), List.take_append_drop]
theorem putEnd_good {M : MDisk} (h : M.Good) (n : ByteArray) : (putEnd M n).2.Good :=
  thenM_P (P := MDisk.Good) (h.sync _) (fun _ h => h) fun M h => thenM_P (P := MDisk.Good) (h.rename _ _) (fun _ h => h) fun M h => h.syncNames
theorem putEnd_small {M : MDisk} {n b : Nat} (hg : M.Good) (h : M.Small n b) (x : ByteArray) : (putEnd M x).2.Small (n + 1) b := by
  refine thenM_P (P := fun M => M.Good ∧ M.Small n b) ⟨hg.sync _, h.sync _⟩ (fun _ h => h.2.mono (by omega) (Nat.le_refl _)) fun M h => ?_
  exact thenM_P (P := fun M => M.Good ∧ M.Small (n + 1) b) ⟨h.1.rename _ _, h.2.rename _ _⟩ (fun _ h => h.2) fun M h => h.2.syncNames h.1
theorem putM_good {M : MDisk} (h : M.Good) (n : ByteArray) (b : List UInt8) : (putM M n b).2.Good := by
  unfold putM
  split
  · exact h
  · exact thenM_P (P := MDisk.Good) (startM_good h) (fun _ h => h) fun M h => thenM_P (P := MDisk.Good) (pourM_good _ h) (fun _ h => h) fun M h => putEnd_good h n
theorem putM_small {M : MDisk} {n b : Nat} (hg : M.Good) (h : M.Small n b) (x : ByteArray) (c : List UInt8) : (putM M x c).2.Small (n + 3) (b + c.length) := by
  unfold putM
  split
  · exact h.mono (by omega) (by omega)
  · refine thenM_P (P := fun M => M.Good ∧ M.Small (n + 2) b) ⟨startM_good hg, startM_small h⟩ (fun _ h => h.2.mono (by omega) (by omega)) fun M h => ?_
    refine thenM_P (P := fun M => M.Good ∧ M.Small (n + 2) (b + c.length)) ⟨pourM_good _ h.1, ?_⟩ (fun _ h => h.2.mono (by omega) (Nat.le_refl _)) fun M h => putEnd_small h.1 h.2 x
    have := pourM_small (parts c) h.2
    rwa [parts_flat c.length c (Nat.le_refl _)] at this
theorem madeM_good {M : MDisk} (h : M.Good) (n : ByteArray) : (madeM M n).2.Good := by
  unfold madeM
  split
  · exact (h.create _).syncNames
  · split
    · exact h.create _
    · exact h.create _
theorem madeM_small {M : MDisk} {n b : Nat} (hg : M.Good) (h : M.Small n b) (x : ByteArray) : (madeM M x).2.Small (n + 1) b := by
  unfold madeM
  split
  · exact (h.create _).syncNames (hg.create _)
  · split
    · exact h.create _
    · exact h.create _
theorem growM_good {M : MDisk} (h : M.Good) (n : ByteArray) (b : List UInt8) : (growM M n b).2.Good := by
  unfold growM
  split
  · exact h
  · exact thenM_P (P := MDisk.Good) (madeM_good h n) (fun _ h => h) fun M h => thenM_P (P := MDisk.Good) (h.append _ _) (fun _ h => h) fun M h => h.sync n
theorem growM_small {M : MDisk} {n b : Nat} (hg : M.Good) (h : M.Small n b) (x : ByteArray) (c : List UInt8) : (growM M x c).2.Small (n + 1) (b + c.length) := by
  unfold growM
  split
  · exact h.mono (by omega) (by omega)
  · refine thenM_P (P := fun M => M.Small (n + 1) b) (madeM_small hg h x) (fun _ h => h.mono (by omega) (by omega)) fun M h => ?_
    exact thenM_P (P := fun M => M.Small (n + 1) (b + c.length)) (h.append _ _) (fun _ h => h) fun M h => h.sync x
theorem dropL_good : ∀ (l : List ByteArray) {M : MDisk} (s : Bool), M.Good → (dropL M s l).2.1.Good
  | [], _, _, h => h
  | n :: l, M, s, h => by
    unfold dropL
    split
    · exact dropL_good l _ (h.remove _)
    · split
      · exact dropL_good l _ (h.remove _)
      · exact h.remove _
theorem dropL_small : ∀ (l : List ByteArray) {M : MDisk} (s : Bool) {n b : Nat}, M.Small n b → (dropL M s l).2.1.Small (n + l.length) b
  | [], _, _, _, _, h => h
  | x :: l, M, s, n, b, h => by
    have h1 := h.remove x
    unfold dropL
    split
    · exact (dropL_small l _ h1).mono (by simp; omega) (Nat.le_refl _)
    · split
      · exact (dropL_small l _ h1).mono (by simp; omega) (Nat.le_refl _)
      · exact h1.mono (by simp) (Nat.le_refl _)
theorem dropM_good {M : MDisk} (h : M.Good) (l : List ByteArray) : (dropM M l).2.Good := by
  unfold dropM
  split
  · exact dropL_good l _ h
  · split
    · exact (dropL_good l _ h).syncNames
    · exact dropL_good l _ h
theorem dropM_small {M : MDisk} {n b : Nat} (hg : M.Good) (h : M.Small n b) (l : List ByteArray) : (dropM M l).2.Small (n + l.length) b := by
  unfold dropM
  split
  · exact dropL_small l _ h
  · split
    · exact (dropL_small l _ h).syncNames (dropL_good l _ hg)
    · exact dropL_small l _ h

end Go.Proofs.Ytonjaaljnjjjcaa

/- Both disks, with what is let go of out of sight. Conditions: as each lemma says. -/
set_option linter.unusedVariables false
set_option linter.unusedSimpArgs false
namespace Go.Proofs.Ytonjaaljnjjjcaa
open Go Go.RowKit

/-- The program's disk lies there, beside Y; it reads in I, and in what was made meanwhile. -/
def Dk (E w : World) (M : MDisk) (d : Nat) (I Y : List Chunk) : Prop := ∃ (D : DS) (G : List Chunk), DRep D M (G ++ I) ∧ Sep E w (D.chunks M d ++ (G ++ Y))
/-- The reference's. -/
def Rk (E w : World) (M : MDisk) (r : Nat) (I Y : List Chunk) : Prop := ∃ (R : RS) (G : List Chunk), RRep R M (G ++ I) ∧ Sep E w (R.chunks M r ++ (G ++ Y))

theorem sub_app {I Y G : List Chunk} (hI : ∀ c ∈ I, c ∈ Y) : ∀ c ∈ G ++ I, c ∈ G ++ Y := fun c hc => (List.mem_append.1 hc).elim (fun h => List.mem_append_left _ h) (fun h => List.mem_append_right _ (hI c h))

theorem Dk.mk' {E w : World} {M : MDisk} {d : Nat} {I Y G C : List Chunk} {D : DS} (hD : DRep D M (C ++ (G ++ I))) (hS : Sep E w (D.chunks M d ++ (C ++ (G ++ Y)))) : Dk E w M d I Y :=
  ⟨D, C ++ G, by rw [List.append_assoc]; exact hD, by rw [List.append_assoc]; exact hS⟩
theorem Rk.mk' {E w : World} {M : MDisk} {d : Nat} {I Y G C : List Chunk} {D : RS} (hD : RRep D M (C ++ (G ++ I))) (hS : Sep E w (D.chunks M d ++ (C ++ (G ++ Y)))) : Rk E w M d I Y :=
  ⟨D, C ++ G, by rw [List.append_assoc]; exact hD, by rw [List.append_assoc]; exact hS⟩

theorem Dk.sep {E w : World} {M : MDisk} {d : Nat} {I Y : List Chunk} (h : Dk E w M d I Y) : Sep E w Y := by
  obtain ⟨D, G, _, hS⟩ := h
  exact hS.weak (by intro f; simp only [ms_append, ms_cons, ms_nil]; omega)
theorem Rk.sep {E w : World} {M : MDisk} {d : Nat} {I Y : List Chunk} (h : Rk E w M d I Y) : Sep E w Y := by
  obtain ⟨D, G, _, hS⟩ := h
  exact hS.weak (by intro f; simp only [ms_append, ms_cons, ms_nil]; omega)
theorem Dk.drew {E w : World} {M : MDisk} {d : Nat} {I Y : List Chunk} (h : Dk E w M d I Y) : Dk E w.drew M d I Y := by
  obtain ⟨D, G, hD, hS⟩ := h
  exact ⟨D, G, hD, hS.drew⟩
theorem Rk.drew {E w : World} {M : MDisk} {d : Nat} {I Y : List Chunk} (h : Rk E w M d I Y) : Rk E w.drew M d I Y := by
  obtain ⟨D, G, hD, hS⟩ := h
  exact ⟨D, G, hD, hS.drew⟩
/-- Y, laid otherwise; what is let go of. -/
theorem Dk.weak {E w : World} {M : MDisk} {d : Nat} {I Y Y' : List Chunk} (h : Dk E w M d I Y) (hp : Part Y' Y) : Dk E w M d I Y' := by
  obtain ⟨D, G, hD, hS⟩ := h
  refine ⟨D, G, hD, hS.weak fun f => ?_⟩
  have := hp f
  simp only [ms_append]
  omega
theorem Rk.weak {E w : World} {M : MDisk} {d : Nat} {I Y Y' : List Chunk} (h : Rk E w M d I Y) (hp : Part Y' Y) : Rk E w M d I Y' := by
  obtain ⟨D, G, hD, hS⟩ := h
  refine ⟨D, G, hD, hS.weak fun f => ?_⟩
  have := hp f
  simp only [ms_append]
  omega

/-- What a step beside the disk does. -/
theorem Dk.frame {E w w' : World} {M : MDisk} {d : Nat} {I Y Y' : List Chunk} (h : Dk E w M d I Y) (hs : ∀ Z : List Chunk, Sep E w (Y ++ Z) → Sep E w' (Y' ++ Z)) : Dk E w' M d I Y' := by
  obtain ⟨D, G, hD, hS⟩ := h
  refine ⟨D, G, hD, ?_⟩
  have h1 : Sep E w (Y ++ (D.chunks M d ++ G)) := hS.weak (by intro f; simp only [ms_append, ms_cons, ms_nil]; omega)
  exact (hs _ h1).weak (by intro f; simp only [ms_append, ms_cons, ms_nil]; omega)
theorem Rk.frame {E w w' : World} {M : MDisk} {d : Nat} {I Y Y' : List Chunk} (h : Rk E w M d I Y) (hs : ∀ Z : List Chunk, Sep E w (Y ++ Z) → Sep E w' (Y' ++ Z)) : Rk E w' M d I Y' := by
  obtain ⟨D, G, hD, hS⟩ := h
  refine ⟨D, G, hD, ?_⟩
  have h1 : Sep E w (Y ++ (D.chunks M d ++ G)) := hS.weak (by intro f; simp only [ms_append, ms_cons, ms_nil]; omega)
  exact (hs _ h1).weak (by intro f; simp only [ms_append, ms_cons, ms_nil]; omega)

/-- How big it may be. -/
structure Fine (M : MDisk) : Prop where
  good : M.Good
  small : M.Small 10000 10000000

theorem Fine.left {M : MDisk} (h : Fine M) : M.left ≤ 9223372036854775807 := h.small.left
theorem Fine.ch {M : MDisk} (h : Fine M) : M.changes.length ≤ 10000 := small_ch h.small
theorem Fine.now {M : MDisk} (h : Fine M) : M.now.length ≤ 10000 := small_now h.good h.small
theorem Fine.tot {M : MDisk} (h : Fine M) : M.total ≤ 100000000000 := h.small.total
theorem Fine.fl {M : MDisk} (h : Fine M) : ∀ f ∈ M.files, f.bytes.length ≤ 10000000 := h.small.each

section
variable {E w : World} {M : MDisk} {d : Nat} {I Y : List Chunk}

theorem d25 (hS : Sep E w Y) (room : Int) : Calls Pr 25 #[.int .i64 room] w fun e w' => ∃ d, e = .returned (.pointer (some ⟨d, 0, none⟩)) ∧ Dk E w' (MDisk.new room) d I Y := by
  refine (k25 hS room).mono ?_
  rintro _ w' ⟨d, D, rfl, hD, hS'⟩
  exact ⟨d, rfl, D, [], hD.mono (fun c hc => by cases hc), hS'⟩
theorem d32 (h : Dk E w M d I Y) (hf : Fine M) (n : ByteArray) : Calls Pr 32 #[.pointer (some ⟨d, 0, none⟩), .string n] w fun e w' => e = .returned (.int .i64 (M.create n).1) ∧ Dk E w' (M.create n).2 d I Y := by
  obtain ⟨D, G, hD, hS⟩ := h
  refine (k32 hf.left (by have := hf.ch; omega) hS hD n).mono ?_
  rintro _ w' ⟨D', C, rfl, hD', hS'⟩
  exact ⟨rfl, Dk.mk' (hD'.right C) hS'⟩
theorem d33 (h : Dk E w M d I Y) (hI : ∀ c ∈ I, c ∈ Y) (hf : Fine M) (n : ByteArray) {x : SV} {b : List UInt8} (hx : RdB Y x b) (hb : b.length ≤ 10000000) :
    Calls Pr 33 #[.pointer (some ⟨d, 0, none⟩), .string n, .slice x.a x.len x.cap] w fun e w' => e = .returned (.int .i64 (M.append n b).1) ∧ Dk E w' (M.append n b).2 d I Y := by
  obtain ⟨D, G, hD, hS⟩ := h
  refine (k33 hf.left hS hD (by have := hf.tot; omega) (by have := hf.ch; omega) (sub_app hI) n (hx.right G) (by omega)).mono ?_
  rintro _ w' ⟨D', C, rfl, hD', hS'⟩
  exact ⟨rfl, Dk.mk' hD' hS'⟩
theorem d28 (h : Dk E w M d I Y) (hI : ∀ c ∈ I, c ∈ Y) (hf : Fine M) (n : ByteArray) : Calls Pr 28 #[.pointer (some ⟨d, 0, none⟩), .string n] w fun e w' => ∃ (s : SV) (C : List Chunk), e = .returned (.tuple #[.slice s.a s.len s.cap, .int .i64 (M.read n).1]) ∧ RdB C s (M.read n).2.1 ∧ Dk E w' (M.read n).2.2 d I (C ++ Y) := by
  obtain ⟨D, G, hD, hS⟩ := h
  refine (k28 hf.left hS hD (sub_app hI) n (fun f hm => by have := hf.fl f hm; omega)).mono ?_
  rintro _ w' ⟨s, C, rfl, hr, _, hD', hS'⟩
  exact ⟨s, C, rfl, hr, D, G, hD', hS'.weak (by intro f; simp only [ms_append, ms_cons, ms_nil]; omega)⟩
theorem d57 (h : Dk E w M d I Y) (hf : Fine M) (n : ByteArray) : Calls Pr 57 #[.pointer (some ⟨d, 0, none⟩), .string n] w fun e w' => e = .returned (.int .i64 (M.sync n).1) ∧ Dk E w' (M.sync n).2 d I Y := by
  obtain ⟨D, G, hD, hS⟩ := h
  refine (k57 hf.left hS hD n).mono ?_
  rintro _ w' ⟨D', rfl, hD', hS'⟩
  exact ⟨rfl, D', G, hD', hS'⟩
theorem d85 (h : Dk E w M d I Y) (hf : Fine M) (n m : ByteArray) : Calls Pr 85 #[.pointer (some ⟨d, 0, none⟩), .string n, .string m] w fun e w' => e = .returned (.int .i64 (M.rename n m).1) ∧ Dk E w' (M.rename n m).2 d I Y := by
  obtain ⟨D, G, hD, hS⟩ := h
  refine (k85 hf.left (by have := hf.ch; omega) hS hD n m).mono ?_
  rintro _ w' ⟨D', C, rfl, hD', hS'⟩
  exact ⟨rfl, Dk.mk' (hD'.right C) hS'⟩
theorem d86 (h : Dk E w M d I Y) (hf : Fine M) (n : ByteArray) : Calls Pr 86 #[.pointer (some ⟨d, 0, none⟩), .string n] w fun e w' => e = .returned (.int .i64 (M.remove n).1) ∧ Dk E w' (M.remove n).2 d I Y := by
  obtain ⟨D, G, hD, hS⟩ := h
  refine (k86 hf.left (by have := hf.ch; omega) hS hD n).mono ?_
  rintro _ w' ⟨D', C, rfl, hD', hS'⟩
  exact ⟨rfl, Dk.mk' (hD'.right C) hS'⟩
theorem d55 (h : Dk E w M d I Y) (hf : Fine M) : Calls Pr 55 #[.pointer (some ⟨d, 0, none⟩)] w fun e w' => e = .returned (.int .i64 M.syncNames.1) ∧ Dk E w' M.syncNames.2 d I Y := by
  obtain ⟨D, G, hD, hS⟩ := h
  refine (k55 hf.left hS hD).mono ?_
  rintro _ w' ⟨D', C, rfl, hD', hS'⟩
  exact ⟨rfl, Dk.mk' (hD'.right C) hS'⟩
theorem d50 (h : Dk E w M d I Y) (hf : Fine M) : Calls Pr 50 #[.pointer (some ⟨d, 0, none⟩)] w fun e w' => ∃ (s : SV) (C : List Chunk), e = .returned (.tuple #[.slice s.a s.len s.cap, .int .i64 M.names.1]) ∧ RdS C 1 s (M.names.2.1.flatMap encK) ∧ Dk E w' M.names.2.2 d I (C ++ Y) := by
  obtain ⟨D, G, hD, hS⟩ := h
  refine (k50 hf.left hS hD (by have := hf.now; omega)).mono ?_
  rintro _ w' ⟨s, C, rfl, hr, hD', hS'⟩
  exact ⟨s, C, rfl, hr, D, G, hD', hS'.weak (by intro f; simp only [ms_append, ms_cons, ms_nil]; omega)⟩
theorem d49 (h : Dk E w M d I Y) (n : Int) : Calls Pr 49 #[.pointer (some ⟨d, 0, none⟩), .int .i64 n] w fun e w' => e = .returned (.int .i64 (M.doom n).1) ∧ Dk E w' (M.doom n).2 d I Y := by
  obtain ⟨D, G, hD, hS⟩ := h
  refine (k49 hS hD n).mono ?_
  rintro _ w' ⟨rfl, hD', hS'⟩
  exact ⟨rfl, D, G, hD', hS'⟩
theorem d45 (h : Dk E w M d I Y) (hI : ∀ c ∈ I, c ∈ Y) (hf : Fine M) (n0 : Int) {sb : SV} {ns : List Int} (hr : RdS Y 1 sb (ns.map intV)) :
    Calls Pr 45 #[.pointer (some ⟨d, 0, none⟩), .agg #[.int .i64 n0, .slice sb.a sb.len sb.cap]] w fun e w' => e = .returned (.int .i64 0) ∧ Dk E w' (M.crash n0 ns) d I Y := by
  obtain ⟨D, G, hD, hS⟩ := h
  refine (k45 hS hD (sub_app hI) hf.good hf.small (by decide) (by decide) n0 (hr.right G)).mono ?_
  rintro _ w' ⟨D', C, rfl, hD', hS'⟩
  exact ⟨rfl, Dk.mk' (hD'.right C) hS'⟩
theorem d40 (h : Dk E w M d I Y) (hf : Fine M) : Calls Pr 40 #[.pointer (some ⟨d, 0, none⟩)] w fun e w' => e = .returned (.int .i64 ((M.used : Nat) : Int)) ∧ Dk E w' M d I Y := by
  obtain ⟨D, G, hD, hS⟩ := h
  refine (k40 hS hD (by have := hf.tot; omega) (by have := hf.ch; omega)).mono ?_
  rintro _ w' ⟨C, rfl, hS'⟩
  exact ⟨rfl, D, G, hD, hS'.weak (by intro f; simp only [ms_append, ms_cons, ms_nil]; omega)⟩
/-- A clone: of it, the same can be seen. -/
theorem d42 (h : Dk E w M d I Y) (hI : ∀ c ∈ I, c ∈ Y) (hf : Fine M) : Calls Pr 42 #[.pointer (some ⟨d, 0, none⟩)] w fun e w' => ∃ (x : Nat) (ord : List Nat) (G : List Chunk), e = .returned (.pointer (some ⟨x, 0, none⟩)) ∧ Covers M ord ∧
    ∃ D D' : DS, DRep D M (G ++ I) ∧ DRep D' (M.renum ord) (G ++ I) ∧ Sep E w' (D'.chunks (M.renum ord) x ++ (D.chunks M d ++ (G ++ Y))) := by
  obtain ⟨D, G, hD, hS⟩ := h
  refine (k42 hS hD hf.good hf.small (by decide)).mono ?_
  rintro _ w' ⟨D', x, ord, C, rfl, hc, hD', hS'⟩
  exact ⟨x, ord, G, rfl, hc, D, D', hD, hD', hS'.weak (by intro f; simp only [ms_append, ms_cons, ms_nil]; omega)⟩

theorem r36 (hS : Sep E w Y) (room : Int) : Calls Pr 36 #[.int .i64 room] w fun e w' => ∃ d, e = .returned (.pointer (some ⟨d, 0, none⟩)) ∧ Rk E w' (MDisk.new room) d I Y := by
  refine (k36 hS room).mono ?_
  rintro _ w' ⟨R, d, rfl, hR, hS'⟩
  exact ⟨d, rfl, R, [], hR.mono (fun c hc => by cases hc), hS'⟩
theorem r96 (h : Rk E w M d I Y) (hI : ∀ c ∈ I, c ∈ Y) (hf : Fine M) (n : ByteArray) : Calls Pr 96 #[.pointer (some ⟨d, 0, none⟩), .string n] w fun e w' => e = .returned (.int .i64 (M.create n).1) ∧ Rk E w' (M.create n).2 d I Y := by
  obtain ⟨D, G, hD, hS⟩ := h
  refine (k96 hS hD (sub_app hI) hf.good hf.small (by decide) n).mono ?_
  rintro _ w' ⟨D', C, rfl, hD', hS'⟩
  exact ⟨rfl, Rk.mk' hD' hS'⟩
theorem r103 (h : Rk E w M d I Y) (hI : ∀ c ∈ I, c ∈ Y) (hf : Fine M) (n : ByteArray) {x : SV} {b : List UInt8} (hx : RdB Y x b) (hb : b.length ≤ 10000000) :
    Calls Pr 103 #[.pointer (some ⟨d, 0, none⟩), .string n, .slice x.a x.len x.cap] w fun e w' => e = .returned (.int .i64 (M.append n b).1) ∧ Rk E w' (M.append n b).2 d I Y := by
  obtain ⟨D, G, hD, hS⟩ := h
  refine (k103 hS hD (sub_app hI) hf.good hf.small (by decide) (by decide) n (hx.right G) (by omega)).mono ?_
  rintro _ w' ⟨D', C, rfl, hD', hS'⟩
  exact ⟨rfl, Rk.mk' hD' hS'⟩
theorem r64 (h : Rk E w M d I Y) (hI : ∀ c ∈ I, c ∈ Y) (hf : Fine M) (n : ByteArray) : Calls Pr 64 #[.pointer (some ⟨d, 0, none⟩), .string n] w fun e w' => ∃ (s : SV) (C : List Chunk), e = .returned (.tuple #[.slice s.a s.len s.cap, .int .i64 (M.read n).1]) ∧ RdB C s (M.read n).2.1 ∧ Rk E w' (M.read n).2.2 d I (C ++ Y) := by
  obtain ⟨D, G, hD, hS⟩ := h
  refine (k64 hS hD (sub_app hI) hf.good hf.small (by decide) (by decide) n).mono ?_
  rintro _ w' ⟨s, C, R', rfl, hr, hD', hS'⟩
  exact ⟨s, C, rfl, hr, R', G, hD', hS'.weak (by intro f; simp only [ms_append, ms_cons, ms_nil]; omega)⟩
theorem r97 (h : Rk E w M d I Y) (hI : ∀ c ∈ I, c ∈ Y) (hf : Fine M) (n : ByteArray) : Calls Pr 97 #[.pointer (some ⟨d, 0, none⟩), .string n] w fun e w' => e = .returned (.int .i64 (M.sync n).1) ∧ Rk E w' (M.sync n).2 d I Y := by
  obtain ⟨D, G, hD, hS⟩ := h
  refine (k97 hS hD (sub_app hI) hf.good hf.small (by decide) n).mono ?_
  rintro _ w' ⟨D', rfl, hD', hS'⟩
  exact ⟨rfl, D', G, hD', hS'⟩
theorem r98 (h : Rk E w M d I Y) (hI : ∀ c ∈ I, c ∈ Y) (hf : Fine M) (n m : ByteArray) : Calls Pr 98 #[.pointer (some ⟨d, 0, none⟩), .string n, .string m] w fun e w' => e = .returned (.int .i64 (M.rename n m).1) ∧ Rk E w' (M.rename n m).2 d I Y := by
  obtain ⟨D, G, hD, hS⟩ := h
  refine (k98 hS hD (sub_app hI) hf.good hf.small (by decide) n m).mono ?_
  rintro _ w' ⟨D', C, rfl, hD', hS'⟩
  exact ⟨rfl, Rk.mk' hD' hS'⟩
theorem r99 (h : Rk E w M d I Y) (hI : ∀ c ∈ I, c ∈ Y) (hf : Fine M) (n : ByteArray) : Calls Pr 99 #[.pointer (some ⟨d, 0, none⟩), .string n] w fun e w' => e = .returned (.int .i64 (M.remove n).1) ∧ Rk E w' (M.remove n).2 d I Y := by
  obtain ⟨D, G, hD, hS⟩ := h
  refine (k99 hS hD (sub_app hI) hf.good hf.small (by decide) n).mono ?_
  rintro _ w' ⟨D', C, rfl, hD', hS'⟩
  exact ⟨rfl, Rk.mk' hD' hS'⟩
theorem r100 (h : Rk E w M d I Y) (hI : ∀ c ∈ I, c ∈ Y) (hf : Fine M) : Calls Pr 100 #[.pointer (some ⟨d, 0, none⟩)] w fun e w' => e = .returned (.int .i64 M.syncNames.1) ∧ Rk E w' M.syncNames.2 d I Y := by
  obtain ⟨D, G, hD, hS⟩ := h
  refine (k100 hS hD (sub_app hI) hf.good hf.small (by decide)).mono ?_
  rintro _ w' ⟨D', C, rfl, hD', hS'⟩
  exact ⟨rfl, Rk.mk' hD' hS'⟩
theorem r101 (h : Rk E w M d I Y) (hI : ∀ c ∈ I, c ∈ Y) (hf : Fine M) : Calls Pr 101 #[.pointer (some ⟨d, 0, none⟩)] w fun e w' => ∃ (s : SV) (C : List Chunk), e = .returned (.tuple #[.slice s.a s.len s.cap, .int .i64 M.names.1]) ∧ RdS C 1 s (M.names.2.1.flatMap encK) ∧ Rk E w' M.names.2.2 d I (C ++ Y) := by
  obtain ⟨D, G, hD, hS⟩ := h
  refine (k101 hS hD (sub_app hI) hf.good hf.small (by decide)).mono ?_
  rintro _ w' ⟨s, C, R', rfl, hr, hD', hS'⟩
  exact ⟨s, C, rfl, hr, R', G, hD', hS'.weak (by intro f; simp only [ms_append, ms_cons, ms_nil]; omega)⟩
theorem r59 (h : Rk E w M d I Y) (n : Int) : Calls Pr 59 #[.pointer (some ⟨d, 0, none⟩), .int .i64 n] w fun e w' => e = .returned (.int .i64 (M.doom n).1) ∧ Rk E w' (M.doom n).2 d I Y := by
  obtain ⟨D, G, hD, hS⟩ := h
  refine (k59 hS hD n).mono ?_
  rintro _ w' ⟨R', rfl, hD', hS'⟩
  exact ⟨rfl, R', G, hD', hS'⟩
theorem r46 (h : Rk E w M d I Y) (hI : ∀ c ∈ I, c ∈ Y) (hf : Fine M) (n0 : Int) {sb : SV} {ns : List Int} (hr : RdS Y 1 sb (ns.map intV)) :
    Calls Pr 46 #[.pointer (some ⟨d, 0, none⟩), .agg #[.int .i64 n0, .slice sb.a sb.len sb.cap]] w fun e w' => e = .returned (.int .i64 0) ∧ Rk E w' (M.crash n0 ns) d I Y := by
  obtain ⟨D, G, hD, hS⟩ := h
  refine (k46 hS hD (sub_app hI) hf.good hf.small (by decide) (by decide) n0 (hr.right G)).mono ?_
  rintro _ w' ⟨D', C, rfl, hD', hS'⟩
  exact ⟨rfl, Rk.mk' hD' hS'⟩
theorem r41 (h : Rk E w M d I Y) (hI : ∀ c ∈ I, c ∈ Y) (hf : Fine M) : Calls Pr 41 #[.pointer (some ⟨d, 0, none⟩)] w fun e w' => e = .returned (.int .i64 ((M.used : Nat) : Int)) ∧ Rk E w' M d I Y := by
  obtain ⟨D, G, hD, hS⟩ := h
  refine (k41 hS hD (sub_app hI) hf.good hf.small (by decide) (by decide)).mono ?_
  rintro _ w' ⟨C, rfl, hS'⟩
  exact ⟨rfl, D, G, hD, hS'.weak (by intro f; simp only [ms_append, ms_cons, ms_nil]; omega)⟩
end

/-! ### Both -/
def Two (E w : World) (M : MDisk) (d r : Nat) (Y : List Chunk) : Prop := ∃ (D : DS) (R : RS) (G : List Chunk), DRep D M (G ++ Y) ∧ RRep R M (G ++ Y) ∧ Sep E w (D.chunks M d ++ (R.chunks M r ++ (G ++ Y)))

theorem Two.sep {E w : World} {M : MDisk} {d r : Nat} {Y : List Chunk} (h : Two E w M d r Y) : Sep E w Y := by
  obtain ⟨D, R, G, _, _, hS⟩ := h
  exact hS.weak (by intro f; simp only [ms_append, ms_cons, ms_nil]; omega)

/-- Something is done on both. -/
theorem Two.step {E w : World} {M M' : MDisk} {d r : Nat} {Y : List Chunk} {f g : FuncId} {a b : Array Value} {v v' : Value} (h : Two E w M d r Y)
    (hf : ∀ I Y', (∀ c ∈ I, c ∈ Y') → (∀ c ∈ Y, c ∈ Y') → Dk E w M d I Y' → Calls Pr f a w fun e w' => e = .returned v ∧ Dk E w' M' d I Y')
    (hg : ∀ w' I Y', (∀ c ∈ I, c ∈ Y') → (∀ c ∈ Y, c ∈ Y') → Rk E w' M r I Y' → Calls Pr g b w' fun e w'' => e = .returned v' ∧ Rk E w'' M' r I Y') :
    Calls Pr f a w fun e w1 => e = .returned v ∧ Sep E w1 Y ∧ Calls Pr g b w1 fun e w2 => e = .returned v' ∧ Two E w2 M' d r Y := by
  obtain ⟨D, R, G, hD, hR, hS⟩ := h
  have h1 := hf (G ++ Y) (R.chunks M r ++ (G ++ Y)) (fun c hc => List.mem_append_right _ hc) (fun c hc => List.mem_append_right _ (List.mem_append_right _ hc)) ⟨D, [], hD, hS⟩
  refine h1.mono ?_
  rintro _ w1 ⟨rfl, D1, G1, hD1, hS1⟩
  refine ⟨rfl, hS1.weak (by intro f; simp only [ms_append, ms_cons, ms_nil]; omega), ?_⟩
  have hS1' : Sep E w1 (R.chunks M r ++ ([] ++ (D1.chunks M' d ++ (G1 ++ (G ++ Y))))) := hS1.weak (by intro f; simp only [ms_append, ms_cons, ms_nil]; omega)
  have h2 := hg w1 (G ++ Y) (D1.chunks M' d ++ (G1 ++ (G ++ Y))) (fun c hc => List.mem_append_right _ (List.mem_append_right _ hc)) (fun c hc => List.mem_append_right _ (List.mem_append_right _ (List.mem_append_right _ hc))) ⟨R, [], hR, hS1'⟩
  refine h2.mono ?_
  rintro _ w2 ⟨rfl, R2, G2, hR2, hS2⟩
  refine ⟨rfl, D1, R2, G2 ++ (G1 ++ G), hD1.mono fun c hc => ?_, hR2.mono fun c hc => ?_, hS2.weak (by intro f; simp only [ms_append, ms_cons, ms_nil]; omega)⟩
  · simp only [List.mem_append] at hc ⊢
    rcases hc with hc | hc | hc
    · exact .inl (.inr (.inl hc))
    · exact .inl (.inr (.inr hc))
    · exact .inr hc
  · simp only [List.mem_append] at hc ⊢
    rcases hc with hc | hc | hc
    · exact .inl (.inl hc)
    · exact .inl (.inr (.inr hc))
    · exact .inr hc

theorem Two.frame {E w w' : World} {M : MDisk} {d r : Nat} {Y Y' : List Chunk} (h : Two E w M d r Y) (hY : ∀ c ∈ Y, c ∈ Y') (hs : ∀ Z : List Chunk, Sep E w (Y ++ Z) → Sep E w' (Y' ++ Z)) : Two E w' M d r Y' := by
  obtain ⟨D, R, G, hD, hR, hS⟩ := h
  refine ⟨D, R, G, hD.mono (sub_app hY), hR.mono (sub_app hY), ?_⟩
  have h1 : Sep E w (Y ++ (D.chunks M d ++ (R.chunks M r ++ G))) := hS.weak (by intro f; simp only [ms_append, ms_cons, ms_nil]; omega)
  exact (hs _ h1).weak (by intro f; simp only [ms_append, ms_cons, ms_nil]; omega)

end Go.Proofs.Ytonjaaljnjjjcaa

/- place: the program's steps. Conditions: as each lemma says. -/
set_option linter.unusedVariables false
set_option linter.unusedSimpArgs false
namespace Go.Proofs.Ytonjaaljnjjjcaa
open Go Go.RowKit

/-! ### Blocks beside a disk -/
theorem Dk.newVar {E w : World} {M : MDisk} {d : Nat} {I Y : List Chunk} (h : Dk E w M d I Y) {t : TypeId} {v : Value} : ∃ b w', Sem.run Pr (Instr.box t v) w = .ok (.pointer (some ⟨b, 0, none⟩)) w' ∧ Dk E w' M d I ((b, .cells v.cells t (0, 0)) :: Y) := by
  obtain ⟨D, G, hD, hS⟩ := h
  obtain ⟨b, w', h1, hS'⟩ := hS.newVar (t := t) (v := v)
  exact ⟨b, w', h1, D, G, hD, hS'.weak (by intro f; simp only [ms_append, ms_cons, ms_nil]; omega)⟩
theorem Dk.alloc {E w : World} {M : MDisk} {d : Nat} {I Y : List Chunk} (h : Dk E w M d I Y) {t : TypeId} {z : Value} (hz : (Pr.info? t).bind (·.zero) = some z) : ∃ b w', Sem.run Pr (Instr.alloc t true (.tuple #[])) w = .ok (.pointer (some ⟨b, 0, none⟩)) w' ∧ Dk E w' M d I ((b, .cells z.cells t (0, 0)) :: Y) := by
  obtain ⟨D, G, hD, hS⟩ := h
  obtain ⟨b, w', h1, hS'⟩ := hS.alloc hz
  exact ⟨b, w', h1, D, G, hD, hS'.weak (by intro f; simp only [ms_append, ms_cons, ms_nil]; omega)⟩
theorem Dk.store {E w : World} {M : MDisk} {d b : Nat} {I Y : List Chunk} {cs : List Value} {T : TypeId} (h : Dk E w M d I ((b, .cells cs.toArray T (0, 0)) :: Y)) {o n : Nat} {v : Value} {t : TypeId}
    (hn : sizeOf? Pr t = some n) (hv : v.cells.size = n) (hle : o + n ≤ cs.length) (h1 : ∀ u ∈ v.cells.toList, u.oneCell' = true) :
    ∃ w', Sem.run Pr (Instr.storeAt t (.pointer (some ⟨b, o, none⟩)) v) w = .ok () w' ∧ Dk E w' M d I ((b, .cells (spl cs o v.cells.toList).toArray T (0, 0)) :: Y) := by
  obtain ⟨D, G, hD, hS⟩ := h
  have hS1 : Sep E w ((b, .cells cs.toArray T (0, 0)) :: (D.chunks M d ++ (G ++ Y))) := hS.weak (by intro f; simp only [ms_append, ms_cons, ms_nil]; omega)
  obtain ⟨w', h2, hS'⟩ := hS1.store hn hv hle h1
  exact ⟨w', h2, D, G, hD, hS'.weak (by intro f; simp only [ms_append, ms_cons, ms_nil]; omega)⟩
theorem Dk.buildSlice {E w : World} {M : MDisk} {d : Nat} {I Y : List Chunk} (h : Dk E w M d I Y) {t T len : Nat} {parts : List (Nat × Value)} {vs : List Value} (hu : Pr.underlying t = some (.slice T)) (hv : bsV Pr t len parts = some vs) :
    ∃ g w', Sem.run Pr (Instr.buildSlice t len parts.toArray) w = .ok (.slice (some ⟨g, 0, none⟩) len len) w' ∧ Dk E w' M d I ((g, .cells vs.toArray T (0, 0)) :: Y) := by
  obtain ⟨D, G, hD, hS⟩ := h
  obtain ⟨g, w', h1, hS'⟩ := hS.buildSlice hu hv
  exact ⟨g, w', h1, D, G, hD, hS'.weak (by intro f; simp only [ms_append, ms_cons, ms_nil]; omega)⟩

/-! ### Names -/
theorem name_pos (n : ByteArray) : n ≠ noName ↔ 1 ≤ n.size := by
  constructor
  · intro h
    refine Classical.byContradiction fun hn => h ?_
    have h0 : n.size = 0 := by omega
    have : n.data = #[] := Array.eq_empty_of_size_eq_zero h0
    cases n
    simp only at this
    rw [this]
    rfl
  · rintro h rfl
    exact absurd h (by decide)

theorem k112 (w : World) (n : ByteArray) : Calls Pr 112 #[.string n] w fun e w' => e = .returned (.bool (pright n)) ∧ w' = w := by
  refine call112 ?_
  unfold ir112
  have hw : ∀ m : ByteArray, (!(ByteArray.toList m == ByteArray.toList (⟨#[116, 109, 112]⟩ : ByteArray))) = decide (m ≠ way) := fun m => by
    rw [ba_eq_toList]
    show (!decide (m = way)) = _
    simp
  rw [hw, ba_ne]
  refine brc_intro (fun h => brc_intro (fun h2 => ?_) (fun h2 => ?_)) (fun h => ?_)
  · have h2 : n ≠ noName := by simpa using h2
    have h3 := (name_pos n).1 h2
    refine ⟨?_, rfl⟩
    have e : pright n = decide (n.size ≤ 32) := by
      unfold pright MDisk.right
      rw [h, decide_eq_true h3]
      simp
    rw [e]
    congr 2
    rw [decide_eq_decide]
    omega
  · have h2 : n = noName := by simpa using h2
    subst h2
    exact ⟨rfl, rfl⟩
  · refine ⟨?_, rfl⟩
    have : pright n = false := by
      unfold pright
      rw [h]
      rfl
    rw [this]

/-! ### One thing behind the other -/
def seqM (M : MDisk) : List (MDisk → Int × MDisk) → Int × MDisk
  | [] => (0, M)
  | f :: fs => thenM (f M) fun M' => seqM M' fs

theorem k113 {E w : World} {d g : Nat} {I Y : List Chunk} {M : MDisk} {fs : List (MDisk → Int × MDisk)} {xs : List FV} {Q : Nat → MDisk → Prop} (hl : xs.length = fs.length) (hb : xs.length ≤ 1000)
    (hD : Dk E w M d I ((g, .cells (xs.map fun x => Value.func x.f x.a x.b).toArray 89 (0, 0)) :: Y)) (h0 : Q 0 M)
    (hQ : ∀ j f M, fs[j]? = some f → Q j M → (f M).1 = 0 → Q (j + 1) (f M).2)
    (hs : ∀ j f (x : FV) M w, fs[j]? = some f → xs[j]? = some x → Q j M → Dk E w M d I ((g, .cells (xs.map fun x => Value.func x.f x.a x.b).toArray 89 (0, 0)) :: Y) → callV Pr (.func x.f x.a x.b) [] w fun e w' => e = .returned (.int .i64 (f M).1) ∧ Dk E w' (f M).2 d I ((g, .cells (xs.map fun x => Value.func x.f x.a x.b).toArray 89 (0, 0)) :: Y)) :
    Calls Pr 113 #[.slice (some ⟨g, 0, none⟩) xs.length xs.length] w fun e w' => e = .returned (.int .i64 (seqM M fs).1) ∧ Dk E w' (seqM M fs).2 d I Y := by
  refine call113 (x0 := ⟨some ⟨g, 0, none⟩, xs.length, xs.length⟩) ?_
  unfold ir113
  let gC : Chunk := (g, .cells (xs.map fun x => Value.func x.f x.a x.b).toArray 89 (0, 0))
  refine ⟨fun n σ w1 => ∃ (j : Nat) (M' : MDisk), j ≤ xs.length ∧ n = xs.length - j ∧ σ = ((j : Int), ()) ∧ Q j M' ∧ seqM M fs = seqM M' (fs.drop j) ∧ Dk E w1 M' d I (gC :: Y), xs.length, ⟨0, M, Nat.zero_le _, rfl, rfl, h0, rfl, hD⟩, ?_⟩
  rintro n σ w1 ⟨j, M', hj, rfl, rfl, hq, hseq, hD1⟩ _
  dsimp only
  refine brc_intro (fun h => ?_) (fun h => ?_)
  · have h : j < xs.length := by simp at h; omega
    have hx : xs[j]? = some xs[j] := List.getElem?_eq_getElem h
    have hf : fs[j]? = some fs[j] := List.getElem?_eq_getElem (by omega)
    generalize xs[j] = x at hx
    generalize fs[j] = f at hf
    refine ⟨⟨by omega, by show ((j : Nat) : Int) < ((xs.length : Nat) : Int); omega⟩, x, ?_, ?_⟩
    · rw [Nat.mul_one, addr_add, Nat.zero_add, Int.toNat_natCast]
      exact hD1.sep.load (b := g) (o := j) List.mem_cons_self (by simp [hx]) (by kernel_rfl)
    · have hc := hs j f x M' w1 hf hx hq hD1
      have hd := drop_at hf
      have hst : seqM M fs = thenM (f M') fun M'' => seqM M'' (fs.drop (j + 1)) := by
        rw [hseq, hd]
        rfl
      have hmono : ∀ {R R' : Ending → World → Prop}, callV Pr (.func x.f x.a x.b) [] w1 R → (∀ e w, R e w → R' e w) → callV Pr (.func x.f x.a x.b) [] w1 R' := by
        intro R R' h hm
        unfold callV at h ⊢
        split at h <;> first
          | exact ⟨h.1, h.2.mono hm⟩
          | exact yieldC_mono h hm
          | exact h
      refine hmono hc ?_
      rintro _ w2 ⟨rfl, hD2⟩
      refine ⟨_, rfl, brc_intro (fun he => ?_) (fun he => ?_)⟩
      · have he : (f M').1 ≠ 0 := by simpa using he
        rw [hst, thenM_bad he]
        exact ⟨rfl, hD2.weak (by intro f; simp only [ms_append, ms_cons, ms_nil]; omega)⟩
      · have he : (f M').1 = 0 := by simpa using he
        rw [thenM_ok he] at hst
        exact ⟨xs.length - (j + 1), by omega, j + 1, (f M').2, by omega, rfl, by rw [w64 (by omega) (by omega)]; rfl, hQ j f M' hf hq he, hst, hD2⟩
  · have h : j = fs.length := by
      have h : ¬ ((j : Nat) : Int) < ((xs.length : Nat) : Int) := by simpa using h
      omega
    rw [hseq, h, List.drop_length]
    exact ⟨rfl, hD1.weak (by intro f; simp only [ms_append, ms_cons, ms_nil]; omega)⟩

/-! ### Bytes, in parts -/
def cellP (a d : Nat) : Chunk := (a, .cells #[.pointer (some ⟨d, 0, none⟩)] 41 (0, 0))
def cellS (a : Nat) (s : SV) : Chunk := (a, .cells #[slV s] 26 (0, 0))
def cellI (a : Nat) (t : TypeId) (n : Int) : Chunk := (a, .cells #[.int .i64 n] t (0, 0))
def cellStr (a : Nat) (s : ByteArray) : Chunk := (a, .cells #[.string s] 9 (0, 0))
theorem z27 : (Pr.info? 27).bind (·.zero) = some (.int .i64 0) := by kernel_rfl

theorem pour_step {M : MDisk} {b : List UInt8} {i : Nat} (h : i < b.length) : pourM M (parts (b.drop i)) = thenM (M.append way ((b.drop i).take 64)) fun M' => pourM M' (parts (b.drop (i + 64))) := by
  have hne : b.drop i ≠ [] := fun e => by
    have := congrArg List.length e
    rw [List.length_drop, List.length_nil] at this
    omega
  rw [parts_cons hne, List.drop_drop]
  rfl

theorem k116 {E w : World} {d : Nat} {I Y : List Chunk} {M : MDisk} {s : SV} {b : List UInt8} {n0 b0 : Nat} (hD : Dk E w M d I Y) (hI : ∀ c ∈ I, c ∈ Y) (hg : M.Good) (hm : M.Small n0 b0) (hn : n0 ≤ 10000) (hb : b0 + b.length ≤ 10000000) (hr : RdB Y s b) :
    Calls Pr 116 #[.pointer (some ⟨d, 0, none⟩), .slice s.a s.len s.cap] w fun e w' => e = .returned (.int .i64 (pourM M (parts b)).1) ∧ Dk E w' (pourM M (parts b)).2 d I Y := by
  refine call116 ?_
  unfold ir116
  obtain ⟨a1, w1, h1, hD1⟩ := hD.newVar (t := 41) (v := .pointer (some ⟨d, 0, none⟩))
  refine ⟨_, w1, h1, ?_⟩
  obtain ⟨a2, w2, h2, hD2⟩ := hD1.alloc z27
  refine ⟨_, w2, h2, ?_⟩
  have hD2 : Dk E w2 M d I (cellI a2 27 0 :: cellP a1 d :: Y) := hD2
  refine call147 ?_
  unfold ir147
  obtain ⟨a3, w3, h3, hD3⟩ := hD2.newVar (t := 26) (v := slV s)
  refine ⟨_, w3, h3, ?_⟩
  obtain ⟨a4, w4, h4, hD4⟩ := hD3.newVar (t := 3) (v := .int .i64 64)
  refine ⟨_, w4, h4, 64, hD4.sep.load (b := a4) (o := 0) List.mem_cons_self rfl (by kernel_rfl), brc_false rfl ?_⟩
  have hD4 : Dk E w4 M d I (cellI a4 3 64 :: cellS a3 s :: cellI a2 27 0 :: cellP a1 d :: Y) := hD4
  refine ⟨⟨.func 161, #[], #[.pointer (some ⟨a3, 0, none⟩), .pointer (some ⟨a4, 0, none⟩)]⟩, rfl, ?_⟩
  let V : Int → List Chunk := fun n => cellI a4 3 64 :: cellS a3 s :: cellI a2 27 n :: cellP a1 d :: Y
  have hsz := hr.size
  have hcap := hr.cap
  obtain ⟨D0, G0, hD0, hS0⟩ := hD4
  refine rangeS (by kernel_rfl) hS0 fun X l D w5 hS5 hX => ?_
  have hD5 : Dk E w5 M d I (loopC X l D .ready none :: defC D :: V 0) := ⟨D0, G0, hD0, hS5.weak (by intro f; simp only [V, ms_append, ms_cons, ms_nil]; omega)⟩
  clear hS5 hS0 hD0 hD1 hD2 hD3 hD h1 h2 h3 h4
  show Calls Pr 161 #[.func (.yield l) #[] #[], .pointer (some ⟨a3, 0, none⟩), .pointer (some ⟨a4, 0, none⟩)] w5 _
  refine call161 (x0 := ⟨.yield l, #[], #[]⟩) ?_
  unfold ir161
  refine ⟨fun k σ w => ∃ (i : Nat) (M' : MDisk), k = b.length - i ∧ σ = ((i : Int), ()) ∧ i ≤ b.length + 63 ∧ M'.Good ∧ M'.Small n0 (b0 + (b.take i).length) ∧ pourM M (parts b) = pourM M' (parts (b.drop i)) ∧ Dk E w M' d I (loopC X l D .ready none :: defC D :: V 0), _, ⟨0, M, rfl, rfl, by omega, hg, hm.mono (Nat.le_refl _) (by simp), by simp, hD5⟩, ?_⟩
  clear hD5
  rintro k σ w6 ⟨i, M', rfl, rfl, hi63, hg', hm', hp, hD6⟩ _
  dsimp only
  have l3 : ∀ {w : World} {Z : List Chunk}, Sep E w Z → cellS a3 s ∈ Z → At Pr w (loadVar 26 ⟨a3, 0, none⟩) (.slice s.a s.len s.cap) := fun hS hm => hS.load (b := a3) (o := 0) hm rfl (by kernel_rfl)
  have m3 : cellS a3 s ∈ loopC X l D .ready none :: defC D :: V 0 := by simp [V]
  have m4 : cellI a4 3 64 ∈ loopC X l D .ready none :: defC D :: V 0 := by simp [V]
  refine ⟨s, l3 hD6.sep m3, brc_intro (fun h => ?_) (fun h => ?_)⟩
  · have h : i < b.length := by simp at h; omega
    have hst := pour_step (M := M') h
    refine ⟨fun w => Sep E w (loopC X l D .ready none :: defC D :: V 0), hD6.drew.sep, 64, fun w hw => hw.load (b := a4) (o := 0) m4 rfl (by kernel_rfl), s, fun w hw => l3 hw m3, ⟨by omega, by omega⟩, s, l3 hD6.drew.sep m3, ?_⟩
    have hw : IntKind.wrap .i64 ((i : Int) + (if ((s.len - (Int.toNat (i : Int)) : Nat) : Int) < 64 then ((s.len - (Int.toNat (i : Int)) : Nat) : Int) else 64)) = ((i + min (b.length - i) 64 : Nat) : Int) := by
      rw [Int.toNat_natCast, hsz]
      split <;> rw [w64 (by omega) (by omega)] <;> omega
    rw [hw]
    simp only [Int.toNat_natCast]
    refine ⟨⟨by omega, by omega⟩, ⟨by omega, by omega⟩, ⟨by omega, by omega⟩, ?_⟩
    generalize hmn : min (b.length - i) 64 = mn
    have hcut := hr.cut (l := i) (h := i + mn) (m := i + mn) (by omega) (by omega) (Nat.le_refl _) (by omega)
    have hpt : (b.drop i).take (i + mn - i) = (b.drop i).take 64 := by
      rw [show i + mn - i = mn by omega]
      by_cases hlt : b.length - i ≤ 64
      · rw [List.take_of_length_le (by rw [List.length_drop]; omega), List.take_of_length_le (by rw [List.length_drop]; omega)]
      · rw [show mn = 64 by omega]
    rw [hpt] at hcut
    have hfine : Fine M' := ⟨hg', hm'.mono hn (by rw [List.length_take]; omega)⟩
    have hpl : ((b.drop i).take 64).length ≤ 64 := by rw [List.length_take]; omega
    obtain ⟨D7, G7, hD7, hS7⟩ := hD6.drew
    have hS7' : Sep E (World.drew w6) (loopC X l D .ready none :: (D7.chunks M' d ++ (G7 ++ (defC D :: V 0)))) := hS7.weak (by intro f; simp only [ms_append, ms_cons, ms_nil]; omega)
    -- a round
    refine yieldS (Pn := fun F => ((M'.append way ((b.drop i).take 64)).1 = 0) ∧ ∃ (D8 : DS) (G8 : List Chunk), F = D8.chunks (M'.append way ((b.drop i).take 64)).2 d ++ (G8 ++ (defC D :: V 0)) ∧ DRep D8 (M'.append way ((b.drop i).take 64)).2 (G8 ++ I))
      (Pt := fun F => ((M'.append way ((b.drop i).take 64)).1 ≠ 0) ∧ ∃ (D8 : DS) (G8 : List Chunk), F = D8.chunks (M'.append way ((b.drop i).take 64)).2 d ++ (G8 ++ (defC D :: V (M'.append way ((b.drop i).take 64)).1)) ∧ DRep D8 (M'.append way ((b.drop i).take 64)).2 (G8 ++ I)) hS7' ?_ ?_ ?_
    · refine hX ⟨cutAt s.a i (i + mn) 1, i + mn - i, i + mn - i⟩ (World.drew w6) _ ?_
      obtain ⟨w8, h8, hS8⟩ := hS7'.begin
      refine ⟨w8, h8, some ⟨d, 0, none⟩, hS8.load (b := a1) (o := 0) (cs := #[.pointer (some ⟨d, 0, none⟩)]) (T := 41) (fr := (0, 0)) (by simp [V, cellP]) rfl (by kernel_rfl), ?_⟩
      have hD8 : Dk E w8 M' d I (loopC X l D .busy none :: defC D :: V 0) := ⟨D7, G7, hD7, hS8.weak (by intro f; simp only [ms_append, ms_cons, ms_nil]; omega)⟩
      refine (d33 hD8 (fun c hc => by simp [V, hI c hc]) hfine way (hcut.mono fun c hc => by simp [V, hc]) (by omega)).mono ?_
      rintro _ w9 ⟨rfl, D9, G9, hD9, hS9⟩
      refine ⟨_, rfl, brc_intro (fun he => ?_) (fun he => ?_)⟩
      · have he : (M'.append way ((b.drop i).take 64)).1 ≠ 0 := by simpa using he
        have hS9' : Sep E w9 (cellI a2 27 0 :: (D9.chunks (M'.append way ((b.drop i).take 64)).2 d ++ (G9 ++ (loopC X l D .busy none :: defC D :: cellI a4 3 64 :: cellS a3 s :: cellP a1 d :: Y)))) := hS9.weak (by intro f; simp only [V, ms_append, ms_cons, ms_nil]; omega)
        obtain ⟨w10, h10, hS10⟩ := Sep.store (cs := [.int .i64 0]) (o := 0) (n := 1) (v := .int .i64 (M'.append way ((b.drop i).take 64)).1) (t := 27) hS9' (by kernel_rfl) rfl (by simp) (by simp [Value.cells, Value.oneCell'])
        have hS10 : Sep E w10 (cellI a2 27 (M'.append way ((b.drop i).take 64)).1 :: (D9.chunks (M'.append way ((b.drop i).take 64)).2 d ++ (G9 ++ (loopC X l D .busy none :: defC D :: cellI a4 3 64 :: cellS a3 s :: cellP a1 d :: Y)))) := hS10
        exact ⟨w10, h10, _, ⟨he, D9, G9, rfl, hD9⟩, hS10.weak (by intro f; simp only [V, ms_append, ms_cons, ms_nil]; omega)⟩
      · have he : (M'.append way ((b.drop i).take 64)).1 = 0 := by simpa using he
        exact ⟨_, ⟨he, D9, G9, rfl, hD9⟩, hS9.weak (by intro f; simp only [ms_append, ms_cons, ms_nil]; omega)⟩
    · rintro F' w9 ⟨he, D9, G9, rfl, hD9⟩ hS9
      rw [thenM_ok he] at hst
      refine ⟨true, rfl, brc_false rfl ⟨64, hS9.load (b := a4) (o := 0) (cs := #[.int .i64 64]) (T := 3) (fr := (0, 0)) (by simp [V, cellI]) rfl (by kernel_rfl), ?_⟩⟩
      refine ⟨b.length - (i + 64), by omega, i + 64, _, rfl, by rw [w64 (by omega) (by omega)]; rfl, by omega, hg'.append _ _, ?_, by rw [hp, hst], D9, G9, hD9, hS9.weak (by intro f; simp only [ms_append, ms_cons, ms_nil]; omega)⟩
      have := hm'.append way ((b.drop i).take 64)
      refine this.mono (Nat.le_refl _) ?_
      simp only [List.length_take, List.length_drop]
      omega
    · rintro F' w9 ⟨he, D9, G9, rfl, hD9⟩ hS9
      rw [thenM_bad he] at hst
      refine ⟨false, rfl, brc_true rfl ⟨⟨_, rfl⟩, leave_ret hS9 fun w10 hS10 => ?_⟩⟩
      have hS10' : Sep E w10 (defC D :: (loopC X l D .exhausted (some .ret) :: (D9.chunks (M'.append way ((b.drop i).take 64)).2 d ++ (G9 ++ V (M'.append way ((b.drop i).take 64)).1)))) := hS10.weak (by intro f; simp only [ms_append, ms_cons, ms_nil]; omega)
      refine shutS hS10' fun w11 hS11 => ⟨_, hS11.load (b := a2) (o := 0) (cs := #[.int .i64 (M'.append way ((b.drop i).take 64)).1]) (T := 27) (fr := (0, 0)) (by simp [V, cellI]) rfl (by kernel_rfl), ?_⟩
      rw [hp, hst]
      exact ⟨rfl, D9, G9, hD9, hS11.weak (by intro f; simp only [V, ms_append, ms_cons, ms_nil]; omega)⟩
  · have h : b.length ≤ i := by simp at h; omega
    have hd : b.drop i = [] := List.drop_eq_nil_of_le h
    rw [hd] at hp
    obtain ⟨D9, G9, hD9, hS9⟩ := hD6
    have hS9' : Sep E w6 (loopC X l D .ready none :: (D9.chunks M' d ++ (G9 ++ (defC D :: V 0)))) := hS9.weak (by intro f; simp only [ms_append, ms_cons, ms_nil]; omega)
    refine ⟨⟨_, rfl⟩, leave_nrm hS9' fun w10 hS10 => ?_⟩
    have hS10' : Sep E w10 (cellI a2 27 0 :: (D9.chunks M' d ++ (G9 ++ (loopC X l D .exhausted none :: defC D :: cellI a4 3 64 :: cellS a3 s :: cellP a1 d :: Y)))) := hS10.weak (by intro f; simp only [V, ms_append, ms_cons, ms_nil]; omega)
    obtain ⟨w11, h11, hS11⟩ := Sep.store (cs := [.int .i64 0]) (o := 0) (n := 1) (v := .int .i64 0) (t := 27) hS10' (by kernel_rfl) rfl (by simp) (by simp [Value.cells, Value.oneCell'])
    refine ⟨w11, h11, ?_⟩
    have hS11' : Sep E w11 (defC D :: (D9.chunks M' d ++ (G9 ++ (loopC X l D .exhausted none :: V 0)))) := Sep.weak (L := cellI a2 27 0 :: (D9.chunks M' d ++ (G9 ++ (loopC X l D .exhausted none :: defC D :: cellI a4 3 64 :: cellS a3 s :: cellP a1 d :: Y)))) hS11 (by intro f; simp only [V, ms_append, ms_cons, ms_nil]; omega)
    refine shutS hS11' fun w12 hS12 => ⟨0, hS12.load (b := a2) (o := 0) (cs := #[.int .i64 0]) (T := 27) (fr := (0, 0)) (by simp [V, cellI]) rfl (by kernel_rfl), ?_⟩
    have e0 : pourM M' (parts []) = (0, M') := rfl
    rw [hp, e0]
    exact ⟨rfl, D9, G9, hD9, hS12.weak (by intro f; simp only [V, ms_append, ms_cons, ms_nil]; omega)⟩

end Go.Proofs.Ytonjaaljnjjjcaa

/- place: Put, Grow, Drop of the program. Conditions: as each lemma says. -/
set_option linter.unusedVariables false
set_option linter.unusedSimpArgs false
namespace Go.Proofs.Ytonjaaljnjjjcaa
open Go Go.RowKit

theorem isW (e : Int) : decide (e = 0) = (e == 0) := by
  by_cases h : e = 0 <;> simp [h]

/-- Put. -/
theorem d48 {E w : World} {d : Nat} {I Y : List Chunk} {M : MDisk} {s : SV} {b : List UInt8} {n0 b0 : Nat} (hD : Dk E w M d I Y) (hI : ∀ c ∈ I, c ∈ Y) (hg : M.Good) (hm : M.Small n0 b0) (hn : n0 + 10 ≤ 10000) (hb : b0 + b.length ≤ 10000000) (name : ByteArray) (hr : RdB Y s b) :
    Calls Pr 48 #[.pointer (some ⟨d, 0, none⟩), .string name, .slice s.a s.len s.cap] w fun e w' => e = .returned (.int .i64 (putM M name b).1) ∧ Dk E w' (putM M name b).2 d I Y := by
  refine call48 ?_
  unfold ir48
  obtain ⟨a1, w1, h1, hD1⟩ := hD.newVar (t := 41) (v := .pointer (some ⟨d, 0, none⟩))
  refine ⟨_, w1, h1, ?_⟩
  obtain ⟨a2, w2, h2, hD2⟩ := hD1.newVar (t := 9) (v := .string name)
  refine ⟨_, w2, h2, ?_⟩
  obtain ⟨a3, w3, h3, hD3⟩ := hD2.newVar (t := 26) (v := slV s)
  let V : List Chunk := cellS a3 s :: cellStr a2 name :: cellP a1 d :: Y
  have hD3 : Dk E w3 M d I V := hD3
  have hYV : ∀ c ∈ Y, c ∈ V := fun c hc => by simp [V, hc]
  refine ⟨_, w3, h3, name, hD3.sep.load (b := a2) (o := 0) (cs := #[.string name]) (T := 9) (fr := (0, 0)) (by simp [V, cellStr]) rfl (by kernel_rfl), (k112 w3 name).mono ?_⟩
  rintro _ _ ⟨rfl, rfl⟩
  unfold putM
  refine ⟨_, rfl, brc_intro (fun h => ?_) (fun h => ?_)⟩
  · have h : pright name = false := by simpa using h
    rw [if_pos h]
    exact ⟨rfl, hD3.weak (by intro f; simp only [V, ms_cons]; omega)⟩
  have h : pright name = true := by simpa using h
  rw [if_neg (by simp [h])]
  have lP : ∀ {w : World} {Z : List Chunk}, Sep E w Z → (∀ c ∈ V, c ∈ Z) → At Pr w (loadVar 41 ⟨a1, 0, none⟩) (.pointer (some ⟨d, 0, none⟩)) := fun hS hV => hS.load (b := a1) (o := 0) (cs := #[.pointer (some ⟨d, 0, none⟩)]) (T := 41) (fr := (0, 0)) (hV _ (by simp [V, cellP])) rfl (by kernel_rfl)
  have lStr : ∀ {w : World} {Z : List Chunk}, Sep E w Z → (∀ c ∈ V, c ∈ Z) → At Pr w (loadVar 9 ⟨a2, 0, none⟩) (.string name) := fun hS hV => hS.load (b := a2) (o := 0) (cs := #[.string name]) (T := 9) (fr := (0, 0)) (hV _ (by simp [V, cellStr])) rfl (by kernel_rfl)
  have lS : ∀ {w : World} {Z : List Chunk}, Sep E w Z → (∀ c ∈ V, c ∈ Z) → At Pr w (loadVar 26 ⟨a3, 0, none⟩) (.slice s.a s.len s.cap) := fun hS hV => hS.load (b := a3) (o := 0) (cs := #[slV s]) (T := 26) (fr := (0, 0)) (hV _ (by simp [V, cellS])) rfl (by kernel_rfl)
  refine ⟨_, lP hD3.sep fun c hc => hc, ?_⟩
  refine (d86 hD3 ⟨hg, hm.mono (by omega) (by omega)⟩ way).mono ?_
  rintro _ w5 ⟨rfl, hD5⟩
  refine ⟨_, rfl, ?_⟩
  have hg5 := hg.remove way
  have hm5 := hm.remove way
  -- all
  have fin : startM M = (M.remove way).2.create way → ∃ (p2 : Option Addr), At Pr w5 (loadVar 41 ⟨a1, 0, none⟩) (.pointer p2) ∧ ∃ (s1 : SV) (w6 : World),
      Sem.run Pr (Instr.buildSlice 201 5 #[(0, (.func (.func 114) #[] #[(.pointer (some ⟨a1, 0, none⟩))])), (1, (.func (.func 115) #[] #[(.pointer (some ⟨a1, 0, none⟩)), (.pointer (some ⟨a3, 0, none⟩))])), (2, (.func (.func 117) #[] #[(.pointer (some ⟨a1, 0, none⟩))])), (3, (.func (.func 118) #[] #[(.pointer (some ⟨a1, 0, none⟩)), (.pointer (some ⟨a2, 0, none⟩))])), (4, (.func (.func 55) #[(.pointer p2)] #[]))]) w5 = .ok (.slice s1.a s1.len s1.cap) w6 ∧
        Calls Pr 113 #[(.slice s1.a s1.len s1.cap)] w6 fun e3 w7 => ∃ (n2 : Int), e3 = .returned (.int .i64 n2) ∧ (Ending.returned (.int .i64 n2) = .returned (.int .i64 (thenM (startM M) fun M => thenM (pourM M (parts b)) fun M => putEnd M name).1) ∧ Dk E w7 (thenM (startM M) fun M => thenM (pourM M (parts b)) fun M => putEnd M name).2 d I Y) := by
    intro hst
    refine ⟨_, lP hD5.sep fun c hc => hc, ?_⟩
    let xs : List FV := [⟨.func 114, #[], #[.pointer (some ⟨a1, 0, none⟩)]⟩, ⟨.func 115, #[], #[.pointer (some ⟨a1, 0, none⟩), .pointer (some ⟨a3, 0, none⟩)]⟩, ⟨.func 117, #[], #[.pointer (some ⟨a1, 0, none⟩)]⟩, ⟨.func 118, #[], #[.pointer (some ⟨a1, 0, none⟩), .pointer (some ⟨a2, 0, none⟩)]⟩, ⟨.func 55, #[.pointer (some ⟨d, 0, none⟩)], #[]⟩]
    let fs : List (MDisk → Int × MDisk) := [fun M => M.create way, fun M => pourM M (parts b), fun M => M.sync way, fun M => M.rename way name, fun M => M.syncNames]
    obtain ⟨g, w6, h6, hD6⟩ := hD5.buildSlice (t := 201) (T := 89) (len := 5) (parts := [(0, (.func (.func 114) #[] #[(.pointer (some ⟨a1, 0, none⟩))])), (1, (.func (.func 115) #[] #[(.pointer (some ⟨a1, 0, none⟩)), (.pointer (some ⟨a3, 0, none⟩))])), (2, (.func (.func 117) #[] #[(.pointer (some ⟨a1, 0, none⟩))])), (3, (.func (.func 118) #[] #[(.pointer (some ⟨a1, 0, none⟩)), (.pointer (some ⟨a2, 0, none⟩))])), (4, (.func (.func 55) #[(.pointer (some ⟨d, 0, none⟩))] #[]))]) (vs := xs.map fun x => Value.func x.f x.a x.b) (by kernel_rfl) (by kernel_rfl)
    refine ⟨⟨some ⟨g, 0, none⟩, 5, 5⟩, w6, h6, ?_⟩
    have hseq : (thenM (startM M) fun M => thenM (pourM M (parts b)) fun M => putEnd M name) = seqM (M.remove way).2 fs := by
      rw [hst]
      have hlast : ∀ M : MDisk, thenM M.syncNames (fun M' => (0, M')) = M.syncNames := fun M => by
        unfold thenM
        split
        · rename_i h0
          rw [← h0]
        · rfl
      show _ = thenM ((M.remove way).2.create way) fun M => thenM (pourM M (parts b)) fun M => thenM (M.sync way) fun M => thenM (M.rename way name) fun M => thenM M.syncNames fun M' => (0, M')
      simp only [hlast]
      rfl
    have hk := k113 (E := E) (w := w6) (d := d) (g := g) (I := I) (Y := V) (M := (M.remove way).2) (fs := fs) (xs := xs) (Q := fun j M => M.Good ∧ M.Small (n0 + 1 + j) (if j ≤ 1 then b0 else b0 + b.length)) rfl (by show 5 ≤ 1000; decide) hD6 ⟨hg5, hm5.mono (by omega) (by simp)⟩ (fun j f M hf hq _ => ?_) (fun j f x M w hf hx hq hDw => ?_)
    · refine Calls.mono (R := _) hk ?_
      rintro _ w7 ⟨rfl, hD7⟩
      rw [hseq]
      exact ⟨_, rfl, rfl, hD7.weak (by intro f; simp only [V, ms_cons]; omega)⟩
    · obtain ⟨hqg, hqm⟩ := hq
      rcases j with _ | _ | _ | _ | _ | j
      · have hf : some (fun M : MDisk => M.create way) = some f := hf
        obtain rfl := Option.some.inj hf
        exact ⟨hqg.create _, (hqm.create _).mono (by omega) (by simp)⟩
      · have hf : some (fun M : MDisk => pourM M (parts b)) = some f := hf
        obtain rfl := Option.some.inj hf
        refine ⟨pourM_good _ hqg, ?_⟩
        have := pourM_small (parts b) hqm
        rw [parts_flat b.length b (Nat.le_refl _)] at this
        exact this.mono (by omega) (by simp)
      · have hf : some (fun M : MDisk => M.sync way) = some f := hf
        obtain rfl := Option.some.inj hf
        exact ⟨hqg.sync _, (hqm.sync _).mono (by omega) (by simp)⟩
      · have hf : some (fun M : MDisk => M.rename way name) = some f := hf
        obtain rfl := Option.some.inj hf
        exact ⟨hqg.rename _ _, (hqm.rename _ _).mono (by omega) (by simp)⟩
      · have hf : some (fun M : MDisk => M.syncNames) = some f := hf
        obtain rfl := Option.some.inj hf
        exact ⟨hqg.syncNames, (hqm.syncNames hqg).mono (by omega) (by simp)⟩
      · have hf : (none : Option (MDisk → Int × MDisk)) = some f := hf
        cases hf
    · obtain ⟨hqg, hqm⟩ := hq
      have hj5 : j < 5 := (List.getElem?_eq_some_iff.1 hf).1
      have hfine : Fine M := ⟨hqg, hqm.mono (by omega) (by split <;> omega)⟩
      have hVg : ∀ c ∈ V, c ∈ (g, Obj.cells (xs.map fun x => Value.func x.f x.a x.b).toArray 89 (0, 0)) :: V := fun c hc => List.mem_cons_of_mem _ hc
      rcases j with _ | _ | _ | _ | _ | j
      · have hf : some (fun M : MDisk => M.create way) = some f := hf
        obtain rfl := Option.some.inj hf
        have hx : some (⟨.func 114, #[], #[.pointer (some ⟨a1, 0, none⟩)]⟩ : FV) = some x := hx
        obtain rfl := Option.some.inj hx
        refine ⟨by kernel_rfl, ?_⟩
        show Calls Pr 114 #[.pointer (some ⟨a1, 0, none⟩)] w _
        refine call114 ?_
        unfold ir114
        refine ⟨_, lP hDw.sep hVg, (d32 hDw hfine way).mono ?_⟩
        rintro _ w' ⟨rfl, h⟩
        exact ⟨_, rfl, rfl, h⟩
      · have hf : some (fun M : MDisk => pourM M (parts b)) = some f := hf
        obtain rfl := Option.some.inj hf
        have hx : some (⟨.func 115, #[], #[.pointer (some ⟨a1, 0, none⟩), .pointer (some ⟨a3, 0, none⟩)]⟩ : FV) = some x := hx
        obtain rfl := Option.some.inj hx
        refine ⟨by kernel_rfl, ?_⟩
        show Calls Pr 115 #[.pointer (some ⟨a1, 0, none⟩), .pointer (some ⟨a3, 0, none⟩)] w _
        refine call115 ?_
        unfold ir115
        have hqm' : M.Small (n0 + 2) b0 := hqm
        refine ⟨_, lP hDw.sep hVg, s, lS hDw.sep hVg, (k116 hDw (fun c hc => hVg _ (hYV c (hI c hc))) hqg hqm' (by omega) hb (hr.mono fun c hc => hVg _ (hYV c hc))).mono ?_⟩
        rintro _ w' ⟨rfl, h⟩
        exact ⟨_, rfl, rfl, h⟩
      · have hf : some (fun M : MDisk => M.sync way) = some f := hf
        obtain rfl := Option.some.inj hf
        have hx : some (⟨.func 117, #[], #[.pointer (some ⟨a1, 0, none⟩)]⟩ : FV) = some x := hx
        obtain rfl := Option.some.inj hx
        refine ⟨by kernel_rfl, ?_⟩
        show Calls Pr 117 #[.pointer (some ⟨a1, 0, none⟩)] w _
        refine call117 ?_
        unfold ir117
        refine ⟨_, lP hDw.sep hVg, (d57 hDw hfine way).mono ?_⟩
        rintro _ w' ⟨rfl, h⟩
        exact ⟨_, rfl, rfl, h⟩
      · have hf : some (fun M : MDisk => M.rename way name) = some f := hf
        obtain rfl := Option.some.inj hf
        have hx : some (⟨.func 118, #[], #[.pointer (some ⟨a1, 0, none⟩), .pointer (some ⟨a2, 0, none⟩)]⟩ : FV) = some x := hx
        obtain rfl := Option.some.inj hx
        refine ⟨by kernel_rfl, ?_⟩
        show Calls Pr 118 #[.pointer (some ⟨a1, 0, none⟩), .pointer (some ⟨a2, 0, none⟩)] w _
        refine call118 ?_
        unfold ir118
        refine ⟨_, lP hDw.sep hVg, name, lStr hDw.sep hVg, (d85 hDw hfine way name).mono ?_⟩
        rintro _ w' ⟨rfl, h⟩
        exact ⟨_, rfl, rfl, h⟩
      · have hf : some (fun M : MDisk => M.syncNames) = some f := hf
        obtain rfl := Option.some.inj hf
        have hx : some (⟨.func 55, #[.pointer (some ⟨d, 0, none⟩)], #[]⟩ : FV) = some x := hx
        obtain rfl := Option.some.inj hx
        refine ⟨by kernel_rfl, ?_⟩
        show Calls Pr 55 #[.pointer (some ⟨d, 0, none⟩)] w _
        refine (d55 hDw hfine).mono ?_
        rintro _ w' ⟨rfl, h⟩
        exact ⟨rfl, h⟩
      · exact absurd hj5 (by omega)
  have bad : (M.remove way).1 ≠ 0 → (M.remove way).1 ≠ 2 → startM M = M.remove way := fun h1 h2 => by unfold startM; rw [if_pos ⟨h1, h2⟩]
  refine brc_intro (fun e1 => brc_intro (fun e2 => ?_) (fun e2 => ?_)) (fun e1 => ?_)
  · have e1 : (M.remove way).1 ≠ 0 := by simpa using e1
    have e2 : (M.remove way).1 ≠ 2 := by simpa using e2
    rw [bad e1 e2, thenM_bad e1]
    exact ⟨rfl, hD5.weak (by intro f; simp only [V, ms_cons]; omega)⟩
  · have e2 : (M.remove way).1 = 2 := by simpa using e2
    exact fin (by unfold startM; rw [if_neg (fun h => h.2 e2)])
  · have e1 : (M.remove way).1 = 0 := by simpa using e1
    exact fin (by unfold startM; rw [if_neg (fun h => h.1 e1)])

end Go.Proofs.Ytonjaaljnjjjcaa

/- place: Grow, Drop of the program; the reference's Put, Grow, Drop. Conditions: as each lemma says. -/
set_option linter.unusedVariables false
set_option linter.unusedSimpArgs false
namespace Go.Proofs.Ytonjaaljnjjjcaa
open Go Go.RowKit

/-- made. -/
theorem d123 {E w : World} {d : Nat} {I Y : List Chunk} {M : MDisk} {n0 b0 : Nat} (hD : Dk E w M d I Y) (hg : M.Good) (hm : M.Small n0 b0) (hn : n0 + 10 ≤ 10000) (hb : b0 ≤ 10000000) (name : ByteArray) :
    Calls Pr 123 #[.pointer (some ⟨d, 0, none⟩), .string name] w fun e w' => e = .returned (.int .i64 (madeM M name).1) ∧ Dk E w' (madeM M name).2 d I Y := by
  refine call123 ?_
  unfold ir123
  refine (d32 hD ⟨hg, hm.mono (by omega) hb⟩ name).mono ?_
  rintro _ w1 ⟨rfl, hD1⟩
  unfold madeM
  refine ⟨_, rfl, brc_intro (fun h => ?_) (fun h => ?_)⟩
  · have h : (M.create name).1 = 0 := by simpa using h
    rw [if_pos h]
    refine (d55 hD1 ⟨hg.create name, (hm.create name).mono (by omega) hb⟩).mono ?_
    rintro _ w2 ⟨rfl, hD2⟩
    exact ⟨_, rfl, rfl, hD2⟩
  · have h : ¬ (M.create name).1 = 0 := by simpa using h
    rw [if_neg h]
    refine brc_intro (fun h4 => ?_) (fun h4 => ?_)
    · have h4 : (M.create name).1 = 4 := by simpa using h4
      rw [if_pos h4]
      exact ⟨rfl, hD1⟩
    · have h4 : ¬ (M.create name).1 = 4 := by simpa using h4
      rw [if_neg h4]
      exact ⟨rfl, hD1⟩

/-- Grow. -/
theorem d58 {E w : World} {d : Nat} {I Y : List Chunk} {M : MDisk} {s : SV} {b : List UInt8} {n0 b0 : Nat} (hD : Dk E w M d I Y) (hI : ∀ c ∈ I, c ∈ Y) (hg : M.Good) (hm : M.Small n0 b0) (hn : n0 + 10 ≤ 10000) (hb : b0 + b.length ≤ 10000000) (name : ByteArray) (hr : RdB Y s b) :
    Calls Pr 58 #[.pointer (some ⟨d, 0, none⟩), .string name, .slice s.a s.len s.cap] w fun e w' => e = .returned (.int .i64 (growM M name b).1) ∧ Dk E w' (growM M name b).2 d I Y := by
  refine call58 ?_
  unfold ir58
  obtain ⟨a1, w1, h1, hD1⟩ := hD.newVar (t := 41) (v := .pointer (some ⟨d, 0, none⟩))
  refine ⟨_, w1, h1, ?_⟩
  obtain ⟨a2, w2, h2, hD2⟩ := hD1.newVar (t := 9) (v := .string name)
  refine ⟨_, w2, h2, ?_⟩
  obtain ⟨a3, w3, h3, hD3⟩ := hD2.newVar (t := 26) (v := slV s)
  let V : List Chunk := cellS a3 s :: cellStr a2 name :: cellP a1 d :: Y
  have hD3 : Dk E w3 M d I V := hD3
  have hYV : ∀ c ∈ Y, c ∈ V := fun c hc => by simp [V, hc]
  refine ⟨_, w3, h3, name, hD3.sep.load (b := a2) (o := 0) (cs := #[.string name]) (T := 9) (fr := (0, 0)) (by simp [V, cellStr]) rfl (by kernel_rfl), (k112 w3 name).mono ?_⟩
  rintro _ w4 ⟨rfl, rfl⟩
  unfold growM
  refine ⟨_, rfl, brc_intro (fun h => ?_) (fun h => ?_)⟩
  · have h : pright name = false := by simpa using h
    rw [if_pos h]
    exact ⟨rfl, hD3.weak (by intro f; simp only [V, ms_cons]; omega)⟩
  have h : pright name = true := by simpa using h
  rw [if_neg (by simp [h])]
  have lP : ∀ {w : World} {Z : List Chunk}, Sep E w Z → (∀ c ∈ V, c ∈ Z) → At Pr w (loadVar 41 ⟨a1, 0, none⟩) (.pointer (some ⟨d, 0, none⟩)) := fun hS hV => hS.load (b := a1) (o := 0) (cs := #[.pointer (some ⟨d, 0, none⟩)]) (T := 41) (fr := (0, 0)) (hV _ (by simp [V, cellP])) rfl (by kernel_rfl)
  have lStr : ∀ {w : World} {Z : List Chunk}, Sep E w Z → (∀ c ∈ V, c ∈ Z) → At Pr w (loadVar 9 ⟨a2, 0, none⟩) (.string name) := fun hS hV => hS.load (b := a2) (o := 0) (cs := #[.string name]) (T := 9) (fr := (0, 0)) (hV _ (by simp [V, cellStr])) rfl (by kernel_rfl)
  have lS : ∀ {w : World} {Z : List Chunk}, Sep E w Z → (∀ c ∈ V, c ∈ Z) → At Pr w (loadVar 26 ⟨a3, 0, none⟩) (.slice s.a s.len s.cap) := fun hS hV => hS.load (b := a3) (o := 0) (cs := #[slV s]) (T := 26) (fr := (0, 0)) (hV _ (by simp [V, cellS])) rfl (by kernel_rfl)
  let xs : List FV := [⟨.func 122, #[], #[.pointer (some ⟨a1, 0, none⟩), .pointer (some ⟨a2, 0, none⟩)]⟩, ⟨.func 124, #[], #[.pointer (some ⟨a1, 0, none⟩), .pointer (some ⟨a2, 0, none⟩), .pointer (some ⟨a3, 0, none⟩)]⟩, ⟨.func 125, #[], #[.pointer (some ⟨a1, 0, none⟩), .pointer (some ⟨a2, 0, none⟩)]⟩]
  let fs : List (MDisk → Int × MDisk) := [fun M => madeM M name, fun M => M.append name b, fun M => M.sync name]
  obtain ⟨g, w6, h6, hD6⟩ := hD3.buildSlice (t := 201) (T := 89) (len := 3) (parts := [(0, (.func (.func 122) #[] #[(.pointer (some ⟨a1, 0, none⟩)), (.pointer (some ⟨a2, 0, none⟩))])), (1, (.func (.func 124) #[] #[(.pointer (some ⟨a1, 0, none⟩)), (.pointer (some ⟨a2, 0, none⟩)), (.pointer (some ⟨a3, 0, none⟩))])), (2, (.func (.func 125) #[] #[(.pointer (some ⟨a1, 0, none⟩)), (.pointer (some ⟨a2, 0, none⟩))]))]) (vs := xs.map fun x => Value.func x.f x.a x.b) (by kernel_rfl) (by kernel_rfl)
  refine ⟨⟨some ⟨g, 0, none⟩, 3, 3⟩, w6, h6, ?_⟩
  have hseq : (thenM (madeM M name) fun M => thenM (M.append name b) fun M => M.sync name) = seqM M fs := by
    have hlast : ∀ M : MDisk, thenM (M.sync name) (fun M' => (0, M')) = M.sync name := fun M => by
      unfold thenM
      split
      · rename_i h0
        rw [← h0]
      · rfl
    show _ = thenM (madeM M name) fun M => thenM (M.append name b) fun M => thenM (M.sync name) fun M' => (0, M')
    simp only [hlast]
  have hk := k113 (E := E) (w := w6) (d := d) (g := g) (I := I) (Y := V) (M := M) (fs := fs) (xs := xs) (Q := fun j M => M.Good ∧ M.Small (n0 + j) (if j ≤ 1 then b0 else b0 + b.length)) rfl (by show 3 ≤ 1000; decide) hD6 ⟨hg, hm.mono (by omega) (by simp)⟩ (fun j f M hf hq _ => ?_) (fun j f x M w hf hx hq hDw => ?_)
  · refine Calls.mono (R := _) hk ?_
    rintro _ w7 ⟨rfl, hD7⟩
    rw [hseq]
    exact ⟨_, rfl, rfl, hD7.weak (by intro f; simp only [V, ms_cons]; omega)⟩
  · obtain ⟨hqg, hqm⟩ := hq
    rcases j with _ | _ | _ | j
    · have hf : some (fun M : MDisk => madeM M name) = some f := hf
      obtain rfl := Option.some.inj hf
      exact ⟨madeM_good hqg _, (madeM_small hqg hqm _).mono (by omega) (by simp)⟩
    · have hf : some (fun M : MDisk => M.append name b) = some f := hf
      obtain rfl := Option.some.inj hf
      exact ⟨hqg.append _ _, (hqm.append _ _).mono (by omega) (by simp)⟩
    · have hf : some (fun M : MDisk => M.sync name) = some f := hf
      obtain rfl := Option.some.inj hf
      exact ⟨hqg.sync _, (hqm.sync _).mono (by omega) (by simp)⟩
    · have hf : (none : Option (MDisk → Int × MDisk)) = some f := hf
      cases hf
  · obtain ⟨hqg, hqm⟩ := hq
    have hj5 : j < 3 := (List.getElem?_eq_some_iff.1 hf).1
    have hfine : Fine M := ⟨hqg, hqm.mono (by omega) (by split <;> omega)⟩
    have hVg : ∀ c ∈ V, c ∈ (g, Obj.cells (xs.map fun x => Value.func x.f x.a x.b).toArray 89 (0, 0)) :: V := fun c hc => List.mem_cons_of_mem _ hc
    rcases j with _ | _ | _ | j
    · have hf : some (fun M : MDisk => madeM M name) = some f := hf
      obtain rfl := Option.some.inj hf
      have hx : some (⟨.func 122, #[], #[.pointer (some ⟨a1, 0, none⟩), .pointer (some ⟨a2, 0, none⟩)]⟩ : FV) = some x := hx
      obtain rfl := Option.some.inj hx
      refine ⟨by kernel_rfl, ?_⟩
      show Calls Pr 122 #[.pointer (some ⟨a1, 0, none⟩), .pointer (some ⟨a2, 0, none⟩)] w _
      refine call122 ?_
      unfold ir122
      have hqm' : M.Small n0 b0 := hqm
      refine ⟨_, lP hDw.sep hVg, name, lStr hDw.sep hVg, (d123 hDw hqg hqm' hn (by omega) name).mono ?_⟩
      rintro _ w' ⟨rfl, h⟩
      exact ⟨_, rfl, rfl, h⟩
    · have hf : some (fun M : MDisk => M.append name b) = some f := hf
      obtain rfl := Option.some.inj hf
      have hx : some (⟨.func 124, #[], #[.pointer (some ⟨a1, 0, none⟩), .pointer (some ⟨a2, 0, none⟩), .pointer (some ⟨a3, 0, none⟩)]⟩ : FV) = some x := hx
      obtain rfl := Option.some.inj hx
      refine ⟨by kernel_rfl, ?_⟩
      show Calls Pr 124 #[.pointer (some ⟨a1, 0, none⟩), .pointer (some ⟨a2, 0, none⟩), .pointer (some ⟨a3, 0, none⟩)] w _
      refine call124 ?_
      unfold ir124
      refine ⟨_, lP hDw.sep hVg, name, lStr hDw.sep hVg, s, lS hDw.sep hVg, (d33 hDw (fun c hc => hVg _ (hYV c (hI c hc))) hfine name (hr.mono fun c hc => hVg _ (hYV c hc)) (by omega)).mono ?_⟩
      rintro _ w' ⟨rfl, h⟩
      exact ⟨_, rfl, rfl, h⟩
    · have hf : some (fun M : MDisk => M.sync name) = some f := hf
      obtain rfl := Option.some.inj hf
      have hx : some (⟨.func 125, #[], #[.pointer (some ⟨a1, 0, none⟩), .pointer (some ⟨a2, 0, none⟩)]⟩ : FV) = some x := hx
      obtain rfl := Option.some.inj hx
      refine ⟨by kernel_rfl, ?_⟩
      show Calls Pr 125 #[.pointer (some ⟨a1, 0, none⟩), .pointer (some ⟨a2, 0, none⟩)] w _
      refine call125 ?_
      unfold ir125
      refine ⟨_, lP hDw.sep hVg, name, lStr hDw.sep hVg, (d57 hDw hfine name).mono ?_⟩
      rintro _ w' ⟨rfl, h⟩
      exact ⟨_, rfl, rfl, h⟩
    · exact absurd hj5 (by omega)

theorem drop_one {α : Type} {l : List α} {j : Nat} {x : α} (h : l[j]? = some x) : l.drop j = x :: l.drop (j + 1) := drop_at h

/-- What Drop comes to, from some names on. -/
def dropEnd (r : Int × MDisk × Bool) : Int × MDisk :=
  if r.1 ≠ 0 then (r.1, r.2.1) else if r.2.2 = true then r.2.1.syncNames else (0, r.2.1)
theorem dropM_eq (M : MDisk) (l : List ByteArray) : dropM M l = dropEnd (dropL M false l) := rfl

/-- Drop. -/
theorem d67 {E w : World} {d : Nat} {I Y : List Chunk} {M : MDisk} {s : SV} {l : List ByteArray} {n0 b0 : Nat} (hD : Dk E w M d I Y) (hg : M.Good) (hm : M.Small n0 b0) (hn : n0 + l.length ≤ 10000) (hb : b0 ≤ 10000000) (hr : RdS Y 1 s (l.flatMap encK)) :
    Calls Pr 67 #[.pointer (some ⟨d, 0, none⟩), .slice s.a s.len s.cap] w fun e w' => e = .returned (.int .i64 (dropM M l).1) ∧ Dk E w' (dropM M l).2 d I Y := by
  refine call67 ?_
  unfold ir67
  have hsz := RdG.size encK_ok hr
  rw [dropM_eq]
  refine ⟨fun k σ w1 => ∃ (j : Nat) (some : Bool) (M' : MDisk), j ≤ l.length ∧ k = l.length - j ∧ σ = ((j : Int), some, ()) ∧ M'.Good ∧ M'.Small (n0 + j) b0 ∧ dropL M false l = dropL M' some (l.drop j) ∧ Dk E w1 M' d I Y, l.length, ⟨0, false, M, Nat.zero_le _, rfl, rfl, hg, hm, rfl, hD⟩, ?_⟩
  rintro k σ w1 ⟨j, sm, M', hj, rfl, rfl, hg', hm', hdr, hD1⟩ _
  dsimp only
  refine brc_intro (fun h => ?_) (fun h => ?_)
  · have h : j < l.length := by simp at h; omega
    have hx : l[j]? = some l[j] := List.getElem?_eq_getElem h
    generalize l[j] = x at hx
    obtain ⟨a, ha, _, hat⟩ := RdG.at_ encK_ok hr hx
    rw [ha]
    have l1 : At Pr w1 (loadVar 9 (a.add (j * 1))) (.string x) := by
      have := hat (j := 0) (v := .string x) (t := 9) rfl (by kernel_rfl) hD1.sep (fun c hc => hc)
      rwa [addA, Nat.add_zero] at this
    refine ⟨⟨by omega, by omega⟩, x, l1, (d86 hD1 ⟨hg', hm'.mono (by omega) hb⟩ x).mono ?_⟩
    rintro _ w2 ⟨rfl, hD2⟩
    have hg2 := hg'.remove x
    have hm2 := hm'.remove x
    have hdc : dropL M' sm (l.drop j) = if (M'.remove x).1 = 0 then dropL (M'.remove x).2 true (l.drop (j + 1)) else if (M'.remove x).1 = 2 then dropL (M'.remove x).2 sm (l.drop (j + 1)) else ((M'.remove x).1, (M'.remove x).2, sm) := by
      rw [drop_at hx]
      rfl
    refine ⟨_, rfl, brc_intro (fun h0 => ?_) (fun h0 => ?_)⟩
    · have h0 : (M'.remove x).1 = 0 := by simpa using h0
      rw [if_pos h0] at hdc
      exact ⟨l.length - (j + 1), by omega, j + 1, true, _, by omega, rfl, by rw [w64 (by omega) (by omega)]; rfl, hg2, hm2, by rw [hdr, hdc], hD2⟩
    · have h0 : ¬ (M'.remove x).1 = 0 := by simpa using h0
      rw [if_neg h0] at hdc
      refine brc_intro (fun h2 => ?_) (fun h2 => ?_)
      · have h2 : ¬ (M'.remove x).1 = 2 := by simpa using h2
        rw [if_neg h2] at hdc
        rw [hdr, hdc]
        unfold dropEnd
        rw [if_pos h0]
        exact ⟨rfl, hD2⟩
      · have h2 : (M'.remove x).1 = 2 := by simpa using h2
        rw [if_pos h2] at hdc
        exact ⟨l.length - (j + 1), by omega, j + 1, sm, _, by omega, rfl, by rw [w64 (by omega) (by omega)]; rfl, hg2, hm2, by rw [hdr, hdc], hD2⟩
  · have h : l.drop j = [] := List.drop_eq_nil_of_le (by simp at h; omega)
    rw [h] at hdr
    have hdr : dropL M false l = (0, M', sm) := hdr
    rw [hdr]
    unfold dropEnd
    rw [if_neg (by simp)]
    refine brc_intro (fun h2 => ?_) (fun h2 => ?_)
    · have h2 : sm = false := by simpa using h2
      rw [if_neg (by simp [h2])]
      exact ⟨rfl, hD1⟩
    · have h2 : sm = true := by simpa using h2
      rw [if_pos h2]
      refine (d55 hD1 ⟨hg', hm'.mono (by omega) hb⟩).mono ?_
      rintro _ w2 ⟨rfl, hD2⟩
      exact ⟨_, rfl, rfl, hD2⟩

/-! ### The reference -/
theorem k148 (w : World) (n : ByteArray) : Calls Pr 148 #[.string n] w fun e w' => e = .returned (.bool (pright n)) ∧ w' = w := by
  refine call148 ?_
  unfold ir148
  have hw : ∀ m : ByteArray, (!(ByteArray.toList m == ByteArray.toList (⟨#[116, 109, 112]⟩ : ByteArray))) = decide (m ≠ way) := fun m => by
    rw [ba_eq_toList]
    show (!decide (m = way)) = _
    simp
  rw [hw]
  refine brc_intro (fun h => brc_intro (fun h2 => ?_) (fun h2 => ?_)) (fun h => ?_)
  · have h3 : 1 ≤ n.size := by simp at h2; omega
    refine ⟨?_, rfl⟩
    have e : pright n = decide (n.size ≤ 32) := by
      unfold pright MDisk.right
      rw [h, decide_eq_true h3]
      simp
    rw [e]
    congr 2
    rw [decide_eq_decide]
    omega
  · have h3 : ¬ 1 ≤ n.size := by simp at h2; omega
    refine ⟨?_, rfl⟩
    have e : pright n = false := by
      unfold pright MDisk.right
      rw [decide_eq_false h3]
      simp
    rw [e]
  · refine ⟨?_, rfl⟩
    have : pright n = false := by
      unfold pright
      rw [h]
      rfl
    rw [this]

theorem k149 (w : World) (a b : Int) : Calls Pr 149 #[.int .i64 a, .int .i64 b] w fun e w' => e = .returned (.int .i64 (if a = b then 0 else a)) ∧ w' = w := by
  refine call149 ?_
  unfold ir149
  refine brc_intro (fun h => ?_) (fun h => ?_)
  · have h : a = b := by simpa using h
    rw [if_pos h]
    exact ⟨rfl, rfl⟩
  · have h : ¬ a = b := by simpa using h
    rw [if_neg h]
    exact ⟨rfl, rfl⟩

/-- Put. -/
theorem r119 {E w : World} {d : Nat} {I Y : List Chunk} {M : MDisk} {s : SV} {b : List UInt8} {n0 b0 : Nat} (hD : Rk E w M d I Y) (hI : ∀ c ∈ I, c ∈ Y) (hg : M.Good) (hm : M.Small n0 b0) (hn : n0 + 10 ≤ 10000) (hb : b0 + b.length ≤ 10000000) (name : ByteArray) (hr : RdB Y s b) :
    Calls Pr 119 #[.pointer (some ⟨d, 0, none⟩), .string name, .slice s.a s.len s.cap] w fun e w' => e = .returned (.int .i64 (putM M name b).1) ∧ Rk E w' (putM M name b).2 d I Y := by
  refine call119 ?_
  unfold ir119
  refine (k148 w name).mono ?_
  rintro _ w1 ⟨rfl, rfl⟩
  unfold putM
  refine ⟨_, rfl, brc_intro (fun h => ?_) (fun h => ?_)⟩
  · have h : pright name = false := by simpa using h
    rw [if_pos h]
    exact ⟨rfl, hD⟩
  have h : pright name = true := by simpa using h
  rw [if_neg (by simp [h])]
  refine (r99 hD hI ⟨hg, hm.mono (by omega) (by omega)⟩ way).mono ?_
  rintro _ w2 ⟨rfl, hD2⟩
  refine ⟨_, rfl, (k149 w2 (M.remove way).1 2).mono ?_⟩
  rintro _ w3 ⟨rfl, rfl⟩
  have hg2 := hg.remove way
  have hm2 := hm.remove way
  refine ⟨_, rfl, brc_intro (fun h0 => ?_) (fun h0 => ?_)⟩
  · have h0 : ¬ ((M.remove way).1 ≠ 0 ∧ (M.remove way).1 ≠ 2) := fun hh => by
      rw [if_neg hh.2] at h0
      simp at h0
      exact hh.1 h0
    have hst : startM M = (M.remove way).2.create way := by unfold startM; rw [if_neg h0]
    rw [hst]
    refine (r96 hD2 hI ⟨hg2, hm2.mono (by omega) (by omega)⟩ way).mono ?_
    rintro _ w4 ⟨rfl, hD4⟩
    refine ⟨_, rfl, ?_⟩
    have hg4 := hg2.create way
    have hm4 := hm2.create way
    generalize (M.remove way).2.create way = r4 at *
    obtain ⟨e4, M4⟩ := r4
    dsimp only at hD4 hg4 hm4 ⊢
    have hsz := hr.size
    have hcap := hr.cap
    -- the end
    have fin : ∀ (e : Int) (M' : MDisk) (w : World), M'.Good → M'.Small (n0 + 2) (b0 + b.length) → Rk E w M' d I Y → (thenM (e4, M4) fun M => thenM (pourM M (parts b)) fun M => putEnd M name) = thenM (e, M') (fun M => putEnd M name) →
        (∀ R : Value → World → Prop, (∀ w', Rk E w' (thenM (e, M') fun M => putEnd M name).2 d I Y → R (.int .i64 (thenM (e, M') fun M => putEnd M name).1) w') →
          brc (e == (0 : Int))
            (Calls Pr 97 #[(.pointer (some ⟨d, 0, none⟩)), (.string (⟨#[116, 109, 112]⟩ : ByteArray))] w fun e6 w7 => ∃ (n5 : Int), e6 = .returned (.int .i64 n5) ∧
              brc (n5 == (0 : Int))
                (Calls Pr 98 #[(.pointer (some ⟨d, 0, none⟩)), (.string (⟨#[116, 109, 112]⟩ : ByteArray)), (.string name)] w7 fun e7 w8 => ∃ (n6 : Int), e7 = .returned (.int .i64 n6) ∧
                  brc (n6 == (0 : Int)) (Calls Pr 100 #[(.pointer (some ⟨d, 0, none⟩))] w8 fun e8 w9 => ∃ (n7 : Int), e8 = .returned (.int .i64 n7) ∧ R (.int .i64 n7) w9) (R (.int .i64 n6) w8))
                (brc (n5 == (0 : Int)) (Calls Pr 100 #[(.pointer (some ⟨d, 0, none⟩))] w7 fun e9 w10 => ∃ (n8 : Int), e9 = .returned (.int .i64 n8) ∧ R (.int .i64 n8) w10) (R (.int .i64 n5) w7)))
            (brc (e == (0 : Int))
              (Calls Pr 98 #[(.pointer (some ⟨d, 0, none⟩)), (.string (⟨#[116, 109, 112]⟩ : ByteArray)), (.string name)] w fun e10 w11 => ∃ (n9 : Int), e10 = .returned (.int .i64 n9) ∧
                brc (n9 == (0 : Int)) (Calls Pr 100 #[(.pointer (some ⟨d, 0, none⟩))] w11 fun e11 w12 => ∃ (n10 : Int), e11 = .returned (.int .i64 n10) ∧ R (.int .i64 n10) w12) (R (.int .i64 n9) w11))
              (brc (e == (0 : Int)) (Calls Pr 100 #[(.pointer (some ⟨d, 0, none⟩))] w fun e12 w13 => ∃ (n11 : Int), e12 = .returned (.int .i64 n11) ∧ R (.int .i64 n11) w13) (R (.int .i64 e) w)))) := by
      intro e M' w hg' hm' hD' _ R hR
      refine brc_intro (fun he => ?_) (fun he => ?_)
      · have he : e = 0 := by simpa using he
        subst he
        rw [thenM_ok rfl] at hR
        unfold putEnd at hR
        refine (r97 hD' hI ⟨hg', hm'.mono (by omega) (by omega)⟩ way).mono ?_
        rintro _ w7 ⟨rfl, hD7⟩
        have hg7 := hg'.sync way
        have hm7 := hm'.sync way
        refine ⟨_, rfl, brc_intro (fun h7 => ?_) (fun h7 => ?_)⟩
        · have h7 : (M'.sync way).1 = 0 := by simpa using h7
          rw [thenM_ok h7] at hR
          refine (r98 hD7 hI ⟨hg7, hm7.mono (by omega) (by omega)⟩ way name).mono ?_
          rintro _ w8 ⟨rfl, hD8⟩
          refine ⟨_, rfl, brc_intro (fun h8 => ?_) (fun h8 => ?_)⟩
          · have h8 : ((M'.sync way).2.rename way name).1 = 0 := by simpa using h8
            rw [thenM_ok h8] at hR
            refine (r100 hD8 hI ⟨hg7.rename way name, (hm7.rename way name).mono (by omega) (by omega)⟩).mono ?_
            rintro _ w9 ⟨rfl, hD9⟩
            exact ⟨_, rfl, hR w9 hD9⟩
          · have h8 : ((M'.sync way).2.rename way name).1 ≠ 0 := by simpa using h8
            rw [thenM_bad h8] at hR
            exact hR w8 hD8
        · have h7' : (M'.sync way).1 ≠ 0 := by simpa using h7
          rw [thenM_bad h7'] at hR
          exact brc_false h7 (hR w7 hD7)
      · have he' : e ≠ 0 := by simpa using he
        rw [thenM_bad (r := (e, M')) he'] at hR
        exact brc_false he (brc_false he (hR w hD'))
    refine ⟨fun k σ w5 => ∃ (i : Nat) (e : Int) (M' : MDisk), k = b.length + 64 - i ∧ σ = ((i : Int), e, ()) ∧ i ≤ b.length + 63 ∧ M'.Good ∧ M'.Small (n0 + 2) (b0 + (b.take i).length) ∧ (thenM (e4, M4) fun M => thenM (pourM M (parts b)) fun M => putEnd M name) = thenM (e, M') (fun M => thenM (pourM M (parts (b.drop i))) fun M => putEnd M name) ∧ Rk E w5 M' d I Y, _, ⟨0, e4, M4, rfl, rfl, by omega, hg4, hm4.mono (by omega) (by simp), by simp, hD4⟩, ?_⟩
    rintro k σ w5 ⟨i, e, M', rfl, rfl, hi63, hg', hm', hp, hD5⟩ _
    dsimp only
    have hm'' : M'.Small (n0 + 2) (b0 + b.length) := hm'.mono (Nat.le_refl _) (by rw [List.length_take]; omega)
    refine brc_intro (fun hi => ?_) (fun hi => ?_)
    · have hib : i < b.length := by simp at hi; omega
      refine brc_intro (fun he => ?_) (fun he => ?_)
      · have he : e = 0 := by simpa using he
        subst he
        rw [thenM_ok (r := ((0 : Int), M')) rfl, pour_step hib] at hp
        have hw : (if ((s.len : Nat) : Int) < (IntKind.wrap .i64 ((i : Int) + 64)) then ((s.len : Nat) : Int) else (IntKind.wrap .i64 ((i : Int) + 64))) = ((i + min (b.length - i) 64 : Nat) : Int) := by
          rw [hsz, w64 (by omega) (by omega)]
          split <;> omega
        rw [hw]
        simp only [Int.toNat_natCast]
        refine ⟨⟨by omega, by omega⟩, ⟨by omega, by omega⟩, ?_⟩
        generalize hmn : min (b.length - i) 64 = mn
        have hcut := hr.cut (l := i) (h := i + mn) (m := s.cap) (by omega) (by omega) (by omega) (Nat.le_refl _)
        have hpt : (b.drop i).take (i + mn - i) = (b.drop i).take 64 := by
          rw [show i + mn - i = mn by omega]
          by_cases hlt : b.length - i ≤ 64
          · rw [List.take_of_length_le (by rw [List.length_drop]; omega), List.take_of_length_le (by rw [List.length_drop]; omega)]
          · rw [show mn = 64 by omega]
        rw [hpt] at hcut
        have hpl : ((b.drop i).take 64).length ≤ 64 := by rw [List.length_take]; omega
        refine (r103 (x := ⟨cutAt s.a i s.cap 1, i + mn - i, s.cap - i⟩) hD5 hI ⟨hg', hm''.mono (by omega) (by omega)⟩ way hcut (by omega)).mono ?_
        rintro _ w6 ⟨rfl, hD6⟩
        refine ⟨_, rfl, b.length + 64 - (i + 64), by omega, i + 64, _, _, rfl, by rw [w64 (by omega) (by omega)]; rfl, by omega, hg'.append _ _, ?_, ?_, hD6⟩
        · refine (hm'.append way ((b.drop i).take 64)).mono (Nat.le_refl _) ?_
          simp only [List.length_take, List.length_drop]
          omega
        · rw [hp]
          by_cases ha : (M'.append way ((b.drop i).take 64)).1 = 0
          · rw [thenM_ok ha, thenM_ok ha]
          · rw [thenM_bad ha, thenM_bad ha, thenM_bad ha]
      · have he' : e ≠ 0 := by simpa using he
        have hbad : ∀ f : MDisk → Int × MDisk, thenM (e, M') f = (e, M') := fun f => thenM_bad (r := (e, M')) he'
        rw [hbad] at hp
        rw [hp]
        exact brc_false he (brc_false he (brc_false he ⟨rfl, hD5⟩))
    · have hi : b.length ≤ i := by simp at hi; omega
      rw [List.drop_eq_nil_of_le hi] at hp
      have hp : (thenM (e4, M4) fun M => thenM (pourM M (parts b)) fun M => putEnd M name) = thenM (e, M') (fun M => putEnd M name) := hp
      refine fin e M' w5 hg' hm'' hD5 hp (fun v w => Ending.returned v = .returned (.int .i64 (thenM (e4, M4) fun M => thenM (pourM M (parts b)) fun M => putEnd M name).1) ∧ Rk E w (thenM (e4, M4) fun M => thenM (pourM M (parts b)) fun M => putEnd M name).2 d I Y) ?_
      intro w' hw'
      rw [hp]
      exact ⟨rfl, hw'⟩
  · have h0' : (if (M.remove way).1 = 2 then (0 : Int) else (M.remove way).1) ≠ 0 := by simpa using h0
    have h2 : (M.remove way).1 ≠ 2 := fun h2 => h0' (by rw [if_pos h2])
    rw [if_neg h2] at h0' h0 ⊢
    have hst : startM M = M.remove way := by unfold startM; rw [if_pos ⟨h0', h2⟩]
    rw [hst, thenM_bad h0']
    refine ⟨fun k σ w5 => k = 0 ∧ σ = (0, (M.remove way).1, ()) ∧ w5 = w3, 0, ⟨rfl, rfl, rfl⟩, ?_⟩
    rintro k σ w5 ⟨rfl, rfl, rfl⟩ _
    dsimp only
    exact brc_intro (fun _ => brc_false h0 (brc_false h0 (brc_false h0 (brc_false h0 ⟨rfl, hD2⟩)))) (fun _ => brc_false h0 (brc_false h0 (brc_false h0 ⟨rfl, hD2⟩)))

end Go.Proofs.Ytonjaaljnjjjcaa

/- place: the reference's Grow, Drop. Conditions: as each lemma says. -/
set_option linter.unusedVariables false
set_option linter.unusedSimpArgs false
namespace Go.Proofs.Ytonjaaljnjjjcaa
open Go Go.RowKit

theorem ready_cases (M : MDisk) : M.ready.1 = 0 ∨ M.ready.1 = 40 := by
  by_cases h : M.ready.1 = 0
  · exact .inl h
  · exact .inr (ready_40 h)
theorem syncNames_cases (M : MDisk) : M.syncNames.1 = 0 ∨ M.syncNames.1 = 40 := by
  unfold MDisk.syncNames
  split
  · exact ready_cases M
  · exact .inl rfl

/-- Grow. -/
theorem r120 {E w : World} {d : Nat} {I Y : List Chunk} {M : MDisk} {s : SV} {b : List UInt8} {n0 b0 : Nat} (hD : Rk E w M d I Y) (hI : ∀ c ∈ I, c ∈ Y) (hg : M.Good) (hm : M.Small n0 b0) (hn : n0 + 10 ≤ 10000) (hb : b0 + b.length ≤ 10000000) (name : ByteArray) (hr : RdB Y s b) :
    Calls Pr 120 #[.pointer (some ⟨d, 0, none⟩), .string name, .slice s.a s.len s.cap] w fun e w' => e = .returned (.int .i64 (growM M name b).1) ∧ Rk E w' (growM M name b).2 d I Y := by
  refine call120 ?_
  unfold ir120
  refine (k148 w name).mono ?_
  rintro _ w1 ⟨rfl, rfl⟩
  unfold growM
  refine ⟨_, rfl, brc_intro (fun h => ?_) (fun h => ?_)⟩
  · have h : pright name = false := by simpa using h
    rw [if_pos h]
    exact ⟨rfl, hD⟩
  have h : pright name = true := by simpa using h
  rw [if_neg (by simp [h])]
  refine (r96 hD hI ⟨hg, hm.mono (by omega) (by omega)⟩ name).mono ?_
  rintro _ w2 ⟨rfl, hD2⟩
  have hg2 := hg.create name
  have hm2 := hm.create name
  -- behind what is made
  have fin : ∀ (e : Int) (M' : MDisk) (w : World), M'.Good → M'.Small (n0 + 1) b0 → Rk E w M' d I Y → madeM M name = (e, M') →
      brc (e == (0 : Int))
        (Calls Pr 103 #[(.pointer (some ⟨d, 0, none⟩)), (.string name), (.slice s.a s.len s.cap)] w fun e5 w5 => ∃ (n4 : Int), e5 = .returned (.int .i64 n4) ∧
          brc (n4 == (0 : Int)) (Calls Pr 97 #[(.pointer (some ⟨d, 0, none⟩)), (.string name)] w5 fun e6 w6 => ∃ (n5 : Int), e6 = .returned (.int .i64 n5) ∧ (Ending.returned (.int .i64 n5) = .returned (.int .i64 (thenM (madeM M name) fun M => thenM (M.append name b) fun M => M.sync name).1) ∧ Rk E w6 (thenM (madeM M name) fun M => thenM (M.append name b) fun M => M.sync name).2 d I Y))
            (Ending.returned (.int .i64 n4) = .returned (.int .i64 (thenM (madeM M name) fun M => thenM (M.append name b) fun M => M.sync name).1) ∧ Rk E w5 (thenM (madeM M name) fun M => thenM (M.append name b) fun M => M.sync name).2 d I Y))
        (brc (e == (0 : Int))
          (Calls Pr 97 #[(.pointer (some ⟨d, 0, none⟩)), (.string name)] w fun e7 w7 => ∃ (n6 : Int), e7 = .returned (.int .i64 n6) ∧ (Ending.returned (.int .i64 n6) = .returned (.int .i64 (thenM (madeM M name) fun M => thenM (M.append name b) fun M => M.sync name).1) ∧ Rk E w7 (thenM (madeM M name) fun M => thenM (M.append name b) fun M => M.sync name).2 d I Y))
          (Ending.returned (.int .i64 e) = .returned (.int .i64 (thenM (madeM M name) fun M => thenM (M.append name b) fun M => M.sync name).1) ∧ Rk E w (thenM (madeM M name) fun M => thenM (M.append name b) fun M => M.sync name).2 d I Y)) := by
    intro e M' w hg' hm' hD' hmade
    rw [hmade]
    refine brc_intro (fun he => ?_) (fun he => ?_)
    · have he : e = 0 := by simpa using he
      subst he
      rw [thenM_ok (r := ((0 : Int), M')) rfl]
      refine (r103 hD' hI ⟨hg', hm'.mono (by omega) (by omega)⟩ name hr (by omega)).mono ?_
      rintro _ w5 ⟨rfl, hD5⟩
      refine ⟨_, rfl, brc_intro (fun h5 => ?_) (fun h5 => ?_)⟩
      · have h5 : (M'.append name b).1 = 0 := by simpa using h5
        rw [thenM_ok h5]
        refine (r97 hD5 hI ⟨hg'.append _ _, (hm'.append _ _).mono (by omega) hb⟩ name).mono ?_
        rintro _ w6 ⟨rfl, hD6⟩
        exact ⟨_, rfl, rfl, hD6⟩
      · have h5 : (M'.append name b).1 ≠ 0 := by simpa using h5
        rw [thenM_bad h5]
        exact ⟨rfl, hD5⟩
    · have he' : e ≠ 0 := by simpa using he
      rw [thenM_bad (r := (e, M')) he']
      exact brc_false he ⟨rfl, hD'⟩
  refine ⟨_, rfl, brc_intro (fun h0 => ?_) (fun h0 => ?_)⟩
  · have h0 : (M.create name).1 = 0 := by simpa using h0
    refine (r100 hD2 hI ⟨hg2, hm2.mono (by omega) (by omega)⟩).mono ?_
    rintro _ w3 ⟨rfl, hD3⟩
    refine ⟨_, rfl, (k149 w3 (M.create name).2.syncNames.1 4).mono ?_⟩
    rintro _ w4 ⟨rfl, rfl⟩
    have hne : ¬ (M.create name).2.syncNames.1 = 4 := fun e => by
      rcases syncNames_cases (M.create name).2 with h | h <;> rw [h] at e <;> cases e
    rw [if_neg hne]
    exact ⟨_, rfl, fin _ _ w4 hg2.syncNames (hm2.syncNames hg2) hD3 (by unfold madeM; rw [if_pos h0])⟩
  · have h0 : ¬ (M.create name).1 = 0 := by simpa using h0
    refine (k149 w2 (M.create name).1 4).mono ?_
    rintro _ w4 ⟨rfl, rfl⟩
    refine ⟨_, rfl, fin _ _ w4 hg2 hm2 hD2 ?_⟩
    unfold madeM
    rw [if_neg h0]
    split
    · rfl
    · rfl

/-- Drop. -/
theorem r121 {E w : World} {d : Nat} {I Y : List Chunk} {M : MDisk} {s : SV} {l : List ByteArray} {n0 b0 : Nat} (hD : Rk E w M d I Y) (hI : ∀ c ∈ I, c ∈ Y) (hg : M.Good) (hm : M.Small n0 b0) (hn : n0 + l.length ≤ 10000) (hb : b0 ≤ 10000000) (hr : RdS Y 1 s (l.flatMap encK)) :
    Calls Pr 121 #[.pointer (some ⟨d, 0, none⟩), .slice s.a s.len s.cap] w fun e w' => e = .returned (.int .i64 (dropM M l).1) ∧ Rk E w' (dropM M l).2 d I Y := by
  refine call121 ?_
  unfold ir121
  have hsz := RdG.size encK_ok hr
  rw [dropM_eq]
  refine ⟨fun k σ w1 => ∃ (j : Nat) (some : Bool) (M' : MDisk), j ≤ l.length ∧ k = l.length - j ∧ σ = ((j : Int), some, ()) ∧ M'.Good ∧ M'.Small (n0 + j) b0 ∧ dropL M false l = dropL M' some (l.drop j) ∧ Rk E w1 M' d I Y, l.length, ⟨0, false, M, Nat.zero_le _, rfl, rfl, hg, hm, rfl, hD⟩, ?_⟩
  rintro k σ w1 ⟨j, sm, M', hj, rfl, rfl, hg', hm', hdr, hD1⟩ _
  dsimp only
  refine brc_intro (fun h => ?_) (fun h => ?_)
  · have h : j < l.length := by simp at h; omega
    have hx : l[j]? = some l[j] := List.getElem?_eq_getElem h
    generalize l[j] = x at hx
    obtain ⟨a, ha, _, hat⟩ := RdG.at_ encK_ok hr hx
    rw [ha]
    have l1 : At Pr w1 (loadVar 9 (a.add (j * 1))) (.string x) := by
      have := hat (j := 0) (v := .string x) (t := 9) rfl (by kernel_rfl) hD1.sep (fun c hc => hc)
      rwa [addA, Nat.add_zero] at this
    refine ⟨⟨by omega, by omega⟩, x, l1, (r99 hD1 hI ⟨hg', hm'.mono (by omega) hb⟩ x).mono ?_⟩
    rintro _ w2 ⟨rfl, hD2⟩
    have hg2 := hg'.remove x
    have hm2 := hm'.remove x
    have hdc : dropL M' sm (l.drop j) = if (M'.remove x).1 = 0 then dropL (M'.remove x).2 true (l.drop (j + 1)) else if (M'.remove x).1 = 2 then dropL (M'.remove x).2 sm (l.drop (j + 1)) else ((M'.remove x).1, (M'.remove x).2, sm) := by
      rw [drop_at hx]
      rfl
    have nx : ∀ sm' : Bool, dropL M' sm (l.drop j) = dropL (M'.remove x).2 sm' (l.drop (j + 1)) → ∃ n', n' < l.length - j ∧ ∃ (j' : Nat) (some : Bool) (M'' : MDisk), j' ≤ l.length ∧ n' = l.length - j' ∧ (IntKind.wrap .i64 ((j : Int) + 1), sm', ()) = ((j' : Int), some, ()) ∧ M''.Good ∧ M''.Small (n0 + j') b0 ∧ dropL M false l = dropL M'' some (l.drop j') ∧ Rk E w2 M'' d I Y := fun sm' e =>
      ⟨l.length - (j + 1), by omega, j + 1, sm', _, by omega, rfl, by rw [w64 (by omega) (by omega)]; rfl, hg2, hm2, by rw [hdr, e], hD2⟩
    refine ⟨_, rfl, brc_intro (fun h0 => ?_) (fun h0 => ?_)⟩
    · have h0' : ¬ (M'.remove x).1 = 0 := by simpa using h0
      rw [if_neg h0'] at hdc
      refine brc_intro (fun h2 => ?_) (fun h2 => ?_)
      · have h2 : ¬ (M'.remove x).1 = 2 := by simpa using h2
        rw [if_neg h2] at hdc
        rw [hdr, hdc]
        unfold dropEnd
        rw [if_pos h0']
        exact ⟨rfl, hD2⟩
      · have h2 : (M'.remove x).1 = 2 := by simpa using h2
        rw [if_pos h2] at hdc
        have e0 : ((M'.remove x).1 == 0) = false := by simpa using h0'
        rw [e0]
        refine brc_intro (fun hs => ?_) (fun hs => ?_)
        · have hs : sm = true := hs
          rw [hs] at hdc
          exact nx true (by rw [hs]; exact hdc)
        · have hs : sm = false := hs
          rw [hs] at hdc
          exact nx false (by rw [hs]; exact hdc)
    · have h0' : (M'.remove x).1 = 0 := by simpa using h0
      rw [if_pos h0'] at hdc
      have e0 : ((M'.remove x).1 == 0) = true := by simpa using h0'
      rw [e0]
      exact brc_intro (fun hs => nx true hdc) (fun hs => nx true hdc)
  · have h : l.drop j = [] := List.drop_eq_nil_of_le (by simp at h; omega)
    rw [h] at hdr
    have hdr : dropL M false l = (0, M', sm) := hdr
    rw [hdr]
    unfold dropEnd
    rw [if_neg (by simp)]
    refine brc_intro (fun h2 => ?_) (fun h2 => ?_)
    · have h2 : sm = false := by simpa using h2
      rw [if_neg (by simp [h2])]
      exact ⟨rfl, hD1⟩
    · have h2 : sm = true := by simpa using h2
      rw [if_pos h2]
      refine (r100 hD1 hI ⟨hg', hm'.mono (by omega) hb⟩).mono ?_
      rintro _ w2 ⟨rfl, hD2⟩
      exact ⟨_, rfl, rfl, hD2⟩

end Go.Proofs.Ytonjaaljnjjjcaa

/- What the arguments are: slices, bytes, lists of bytes. Conditions: as each lemma says. -/
set_option linter.unusedVariables false
set_option linter.unusedSimpArgs false
namespace Go.Proofs.Ytonjaaljnjjjcaa
open Go Go.RowKit

section
variable {H : Type} {enc : TypeId × Value → H} {w : World} {fuel : Nat} {x : DataW H × List MemPlace}

noncomputable abbrev trod0 (enc : TypeId × Value → H) (w : World) (fuel : Nat) (t : TypeId) (cs : List Value) : Option (DataW H × List MemPlace) := DataW.trod enc Pr w 0 (fun _ => true) true fuel t cs

theorem whole_mem {w : World} {b : Nat} {o : Obj} (h : w.heap[b]? = some o) : (b, o) ∈ whole w := by
  have hb := (Array.getElem?_eq_some_iff.1 h).1
  refine List.mem_map.2 ⟨b, List.mem_range.2 hb, ?_⟩
  have : w.heap.getD b default = o := by
    rw [Array.getD_eq_getD_getElem?, h]
    rfl
  rw [this]

theorem add_add (a : Addr) (m n : Nat) : (a.add m).add n = a.add (m + n) := by
  unfold Addr.add
  by_cases hm : m = 0
  · subst hm; simp
  · by_cases hn : n = 0
    · subst hn; simp [hm]
    · have : ¬ m + n = 0 := by omega
      simp [hm, hn, Nat.add_assoc]

theorem mapM_get {α β : Type} {f : α → Option β} : ∀ {l : List α} {m : List β}, l.mapM f = some m → m.length = l.length ∧ ∀ (i : Nat) (a : α), l[i]? = some a → m[i]? = f a
  | [], m, h => by
    simp at h
    subst h
    simp
  | x :: l, m, h => by
    rw [List.mapM_cons] at h
    cases hx : f x with
    | none => simp [hx] at h
    | some y =>
      cases hl : l.mapM f with
      | none => simp [hx, hl] at h
      | some m' =>
        simp [hx, hl] at h
        subst h
        obtain ⟨h1, h2⟩ := mapM_get hl
        refine ⟨by simp [h1], fun i a hi => ?_⟩
        cases i with
        | zero => simp at hi; subst hi; simp [hx]
        | succ i => simpa using h2 i a (by simpa using hi)

theorem cells_get {a : Addr} {n : Nat} {cs : List Value} (h : w.cells? 0 a n = some cs) : cs.length = n ∧ ∀ j, j < n → w.cell? (a.add j) = cs[j]? := by
  unfold World.cells? at h
  rw [if_pos (Nat.zero_le _)] at h
  obtain ⟨h1, h2⟩ := mapM_get h
  exact ⟨by simpa using h1, fun j hj => (h2 j j (by simp [hj])).symm⟩

theorem cell_at {a : Addr} {v : Value} (h : w.cell? a = some v) : a.spot = none ∧ ∃ cs T fr, w.heap[a.block]? = some (.cells cs T fr) ∧ cs[a.off]? = some v := by
  unfold World.cell? at h
  split at h
  · rename_i cs T fr hc
    split at h
    · cases h
    · rename_i hs
      exact ⟨by simpa using hs, cs, T, fr, hc, h⟩
  · cases h

/-- A slice among the arguments. -/
theorem arg_slice {t e sz : TypeId} (ht : Pr.underlying t = some (.slice e)) (hsz : Pr.cellsOf e = sz) (h0 : 0 < sz) {v : Value} (h : trod0 enc w fuel t [v] = some x) :
    ∃ (s : SV) (xs : List Value), v = .slice s.a s.len s.cap ∧ RdS (whole w) sz s xs ∧ s.len ≤ maxLen ∧ ∀ i, i < s.len → ∃ n y, trod0 enc w n e ((xs.drop (i * sz)).take sz) = some y := by
  rcases DataW.trod_slice ht h with ⟨hc, _⟩ | ⟨a, len, cap, elems, rest, n, rfl, hc, _, _, h1, h2, h3, h4, _, _⟩
  · injection hc with hc
    subst hc
    exact ⟨SV.nil, [], rfl, RdS.none _ _, Nat.zero_le _, fun i hi => absurd hi (Nat.not_lt_zero i)⟩
  · injection hc with hc
    subst hc
    subst hsz
    generalize hz : Pr.cellsOf e = sz at *
    -- each element's cells
    have hel : ∀ i, i < len → ∃ cs y, w.cells? 0 (a.add (i * sz)) sz = some cs ∧ trod0 enc w n e cs = some y := fun i hi => by
      have := h4 i hi
      have hi' : i < elems.length := by omega
      rw [List.getElem?_eq_getElem hi'] at this
      obtain ⟨cs, hcs, ht⟩ := Option.bind_eq_some_iff.1 this
      exact ⟨cs, _, hcs, ht⟩
    let xs : List Value := (List.range (len * sz)).map fun j => (w.cell? (a.add j)).getD undef
    have hcell : ∀ j, j < len * sz → ∃ v, w.cell? (a.add j) = some v ∧ xs[j]? = some v := fun j hj => by
      have hi : j / sz < len := (Nat.div_lt_iff_lt_mul h0).2 hj
      obtain ⟨cs, y, hcs, _⟩ := hel _ hi
      obtain ⟨hl, hg⟩ := cells_get hcs
      have hm := Nat.mod_lt j h0
      have := hg (j % sz) hm
      rw [add_add, Nat.mul_comm, Nat.div_add_mod, List.getElem?_eq_getElem (by omega)] at this
      refine ⟨_, this, ?_⟩
      simp [xs, hj, this]
    refine ⟨⟨some a, len, cap⟩, xs, rfl, ⟨by simp [xs], h1, (fun h => by cases h), fun b hb => ?_⟩, Nat.le_trans h1 h2, fun i hi => ?_⟩
    · injection hb with hb
      subst hb
      rcases Nat.eq_zero_or_pos len with hl0 | hl0
      · exact .inl hl0
      · refine .inr ?_
        have hpos : 0 < len * sz := Nat.mul_pos hl0 h0
        obtain ⟨v0, hv0, _⟩ := hcell 0 hpos
        have ha0 : a.add 0 = a := by simp [Addr.add]
        rw [ha0] at hv0
        obtain ⟨hsp, cs, T, fr, hb, _⟩ := cell_at hv0
        refine ⟨hsp, cs, T, fr, whole_mem hb, fun j u hu => ?_⟩
        have hj : j < len * sz := by
          have := (List.getElem?_eq_some_iff.1 hu).1
          simpa [xs] using this
        obtain ⟨v, hv, hxv⟩ := hcell j hj
        have : u = v := Option.some.inj (hu.symm.trans hxv)
        subst this
        obtain ⟨bb, bo, bs⟩ := a
        simp only at hsp
        subst hsp
        rw [addr_add] at hv
        obtain ⟨_, cs', T', fr', hb', hv'⟩ := cell_at hv
        simp only at hb' hv' hb ⊢
        have : Obj.cells cs T fr = Obj.cells cs' T' fr' := Option.some.inj (hb.symm.trans hb')
        have h1 := (Obj.cells.inj this).1
        rw [h1]
        exact hv'
    · have hi : i < len := hi
      obtain ⟨cs, y, hcs, hy⟩ := hel i hi
      obtain ⟨hl, hg⟩ := cells_get hcs
      refine ⟨n, y, ?_⟩
      have : (xs.drop (i * sz)).take sz = cs := by
        apply List.ext_getElem?
        intro j
        rw [List.getElem?_take]
        split
        · rename_i hj
          rw [List.getElem?_drop]
          have hlt : i * sz + j < len * sz := by
            have : (i + 1) * sz ≤ len * sz := Nat.mul_le_mul_right _ (by omega)
            rw [Nat.succ_mul] at this
            omega
          obtain ⟨v, hv, hxv⟩ := hcell _ hlt
          rw [hxv, ← hv, ← add_add]
          exact hg j hj
        · rename_i hj
          exact (List.getElem?_eq_none (by omega)).symm
      rw [this]
      exact hy

/-- A list out of what stands at each place. -/
theorem list_of {α β : Type} {R : α → β → Prop} : ∀ (l : List α), (∀ i (h : i < l.length), ∃ b, R l[i] b) → ∃ m : List β, m.length = l.length ∧ ∀ i (h : i < l.length) (h' : i < m.length), R l[i] m[i]
  | [], _ => ⟨[], rfl, fun i h => absurd h (Nat.not_lt_zero i)⟩
  | a :: l, h => by
    obtain ⟨b, hb⟩ := h 0 (by simp)
    obtain ⟨m, h1, h2⟩ := list_of l fun i hi => by
      have := h (i + 1) (by simpa using hi)
      simpa using this
    refine ⟨b :: m, by simp [h1], fun i hi hi' => ?_⟩
    cases i with
    | zero => simpa using hb
    | succ i => simpa using h2 i (by simpa using hi) (by simpa using hi')

theorem u5 : Pr.underlying 5 = some (.int .u8) := by kernel_rfl
theorem u26 : Pr.underlying 26 = some (.slice 5) := by kernel_rfl
theorem u22 : Pr.underlying 22 = some (.slice 26) := by kernel_rfl
theorem c5 : Pr.cellsOf 5 = 1 := by kernel_rfl
theorem c26 : Pr.cellsOf 26 = 1 := by kernel_rfl

/-- Bytes among the arguments. -/
theorem arg_bytes {v : Value} (h : trod0 enc w fuel 26 [v] = some x) : ∃ (s : SV) (l : List UInt8), v = .slice s.a s.len s.cap ∧ RdB (whole w) s l ∧ l.length ≤ maxLen := by
  obtain ⟨s, xs, rfl, hr, hm, hel⟩ := arg_slice u26 c5 (by decide) h
  have hlen := hr.len1
  obtain ⟨l, h1, h2⟩ := list_of (R := fun v (b : UInt8) => v = byteV b) xs fun i hi => by
    obtain ⟨n, y, hy⟩ := hel i (by omega)
    have e : (xs.drop (i * 1)).take 1 = [xs[i]] := by
      rw [Nat.mul_one, List.drop_eq_getElem_cons hi]
      rfl
    rw [e] at hy
    obtain ⟨m, hm, _, hw⟩ := DataW.trod_int u5 hy
    injection hm with hm
    have hlo : (0 : Int) ≤ m ∧ m ≤ 255 := by
      simp only [Lit.wf, Bool.and_eq_true, decide_eq_true_eq] at hw
      exact hw
    refine ⟨UInt8.ofNat m.toNat, ?_⟩
    rw [hm]
    unfold byteV
    rw [UInt8.toNat_ofNat']
    congr 1
    omega
  have : xs = l.map byteV := by
    apply List.ext_getElem
    · simp [h1]
    · intro i hi hi'
      rw [List.getElem_map]
      exact h2 i hi (by omega)
  subst this
  refine ⟨s, l, rfl, hr, ?_⟩
  rw [List.length_map] at hlen
  omega

/-- Lists of bytes among the arguments. -/
theorem arg_list {v : Value} (h : trod0 enc w fuel 22 [v] = some x) : ∃ (s : SV) (ls : List (List UInt8)), v = .slice s.a s.len s.cap ∧ RdL (whole w) s ls ∧ ls.length ≤ maxLen := by
  obtain ⟨s, xs, rfl, hr, hm, hel⟩ := arg_slice u22 c26 (by decide) h
  have hlen := hr.len1
  obtain ⟨l, h1, h2⟩ := list_of (R := fun v (b : SV × List UInt8) => v = slV b.1 ∧ RdB (whole w) b.1 b.2) xs fun i hi => by
    obtain ⟨n, y, hy⟩ := hel i (by omega)
    have e : (xs.drop (i * 1)).take 1 = [xs[i]] := by
      rw [Nat.mul_one, List.drop_eq_getElem_cons hi]
      rfl
    rw [e] at hy
    obtain ⟨s, l, h1, h2, _⟩ := arg_bytes hy
    exact ⟨(s, l), h1, h2⟩
  have : xs = (l.map (·.1)).map slV := by
    apply List.ext_getElem
    · simp [h1]
    · intro i hi hi'
      rw [List.getElem_map, List.getElem_map]
      exact (h2 i hi (by omega)).1
  subst this
  refine ⟨s, l.map (·.2), rfl, ⟨l.map (·.1), hr, by simp, fun i s' l' hs hl => ?_⟩, ?_⟩
  · rw [List.getElem?_map, Option.map_eq_some_iff] at hs hl
    obtain ⟨p, hp, rfl⟩ := hs
    obtain ⟨q, hq, rfl⟩ := hl
    have : p = q := Option.some.inj (hp.symm.trans hq)
    subst this
    obtain ⟨hi, rfl⟩ := List.getElem?_eq_some_iff.1 hp
    exact (h2 i (by simpa using hi) hi).2
  · have := hr.len1
    simp only [List.length_map] at this ⊢
    omega
end

end Go.Proofs.Ytonjaaljnjjjcaa

/- What 'vc' of these functions comes to, and their calls by it. Printed by dec.py. -/
set_option linter.unusedVariables false
set_option linter.unusedSimpArgs false
namespace Go.Proofs.Ytonjaaljnjjjcaa
open Go

/-- creel/creellaw04.shown -/
def ir35 (w0 : World) (R : Value → World → Prop) : Prop :=
  Calls Pr 25 #[(.int .i64 9)] w0 fun e1 w1 =>
    ∃ (p1 : Option Addr),
    e1 = .returned (.pointer p1) ∧
    brc (Option.isNone p1)
      (R (.bool false) w1)
      (Calls Pr 32 #[(.pointer p1), (.string (⟨#[97]⟩ : ByteArray))] w1 fun e2 w2 =>
          ∃ (n1 : Int),
          e2 = .returned (.int .i64 n1) ∧
          brc (n1 != (0 : Int))
            (R (.bool false) w2)
            (∃ (s1 : SV) (w3 : World),
              Sem.run Pr (Instr.makeSlice 26 (.int .i64 5) (.int .i64 5)) w2 = .ok (.slice s1.a s1.len s1.cap) w3 ∧
              Calls Pr 33 #[(.pointer p1), (.string (⟨#[97]⟩ : ByteArray)), (.slice s1.a s1.len s1.cap)] w3 fun e3 w4 =>
                ∃ (n2 : Int),
                e3 = .returned (.int .i64 n2) ∧
                brc (n2 != (0 : Int))
                  (R (.bool false) w4)
                  (Calls Pr 45 #[(.pointer p1), (.agg #[(.int .i64 0), (.slice none 0 0)])] w4 fun e4 w5 =>
                      ∃ (n3 : Int),
                      e4 = .returned (.int .i64 n3) ∧
                      brc (n3 != (0 : Int))
                        (R (.bool false) w5)
                        (Calls Pr 50 #[(.pointer p1)] w5 fun e5 w6 =>
                            ∃ (s2 : SV) (n4 : Int),
                            e5 = .returned (.tuple #[(.slice s2.a s2.len s2.cap), (.int .i64 n4)]) ∧
                            brc (((s2.len : Nat) : Int) != (0 : Int))
                              (R (.bool false) w6)
                              (brc (n4 != (0 : Int))
                                  (R (.bool false) w6)
                                  (Calls Pr 32 #[(.pointer p1), (.string (⟨#[97]⟩ : ByteArray))] w6 fun e6 w7 =>
                                      ∃ (n5 : Int),
                                      e6 = .returned (.int .i64 n5) ∧
                                      brc (n5 != (0 : Int))
                                        (R (.bool false) w7)
                                        (Calls Pr 55 #[(.pointer p1)] w7 fun e7 w8 =>
                                            ∃ (n6 : Int),
                                            e7 = .returned (.int .i64 n6) ∧
                                            brc (n6 != (0 : Int))
                                              (R (.bool false) w8)
                                              (∃ (s3 : SV) (w9 : World),
                                                Sem.run Pr (Instr.makeSlice 26 (.int .i64 5) (.int .i64 5)) w8 = .ok (.slice s3.a s3.len s3.cap) w9 ∧
                                                Calls Pr 33 #[(.pointer p1), (.string (⟨#[97]⟩ : ByteArray)), (.slice s3.a s3.len s3.cap)] w9 fun e8 w10 =>
                                                  ∃ (n7 : Int),
                                                  e8 = .returned (.int .i64 n7) ∧
                                                  brc (n7 != (0 : Int))
                                                    (R (.bool false) w10)
                                                    (∃ (s4 : SV) (w11 : World),
                                                      Sem.run Pr (Instr.buildSlice 61 1 #[(0, (.int .i64 2))]) w10 = .ok (.slice s4.a s4.len s4.cap) w11 ∧
                                                      Calls Pr 45 #[(.pointer p1), (.agg #[(.int .i64 0), (.slice s4.a s4.len s4.cap)])] w11 fun e9 w12 =>
                                                        ∃ (n8 : Int),
                                                        e9 = .returned (.int .i64 n8) ∧
                                                        brc (n8 != (0 : Int))
                                                          (R (.bool false) w12)
                                                          (Calls Pr 28 #[(.pointer p1), (.string (⟨#[97]⟩ : ByteArray))] w12 fun e10 w13 =>
                                                              ∃ (s5 : SV) (n9 : Int),
                                                              e10 = .returned (.tuple #[(.slice s5.a s5.len s5.cap), (.int .i64 n9)]) ∧
                                                              brc (((s5.len : Nat) : Int) == (2 : Int))
                                                                (brc (n9 == (0 : Int))
                                                                    (∃ (s6 : SV) (w14 : World),
                                                                      Sem.run Pr (Instr.makeSlice 26 (.int .i64 8) (.int .i64 8)) w13 = .ok (.slice s6.a s6.len s6.cap) w14 ∧
                                                                      Calls Pr 33 #[(.pointer p1), (.string (⟨#[97]⟩ : ByteArray)), (.slice s6.a s6.len s6.cap)] w14 fun e11 w15 =>
                                                                        ∃ (n10 : Int),
                                                                        e11 = .returned (.int .i64 n10) ∧
                                                                        R (.bool (n10 == (41 : Int))) w15)
                                                                    (R (.bool false) w13))
                                                                (R (.bool false) w13)))))))))))

theorem call35 {w0 : World} {R : Ending → World → Prop} (h : ir35 w0 fun v w => R (.returned v) w) : Calls Pr 35 #[] w0 R := by
  refine calls_of_vc (ann := []) (E := []) (args := []) follows Try.func35 rfl (by kernel_rfl) ?_
  apply by_eq h
  kernel_rfl

/-- creel/creellaw04.few -/
def ir37 (x0 : SV) (w0 : World) (R : Value → World → Prop) : Prop :=
  LoopT (σ := Int × SV × Unit) (fun σ1 w1 K1 =>
    ∀ _ : Env,
    brc (decide (σ1.1 < ((x0.len : Nat) : Int)))
      (((0 : Int) ≤ σ1.1 ∧ σ1.1 < ((x0.len : Nat) : Int)) ∧
        optK x0.a fun a1 =>
          ∃ (n1 : Int) (str1 : ByteArray) (str2 : ByteArray) (s1 : SV) (n2 : Int) (n3 : Int) (s2 : SV),
          At Pr w1 (loadVar 68 (Addr.add a1 (Int.toNat σ1.1 * 7))) (.agg #[(.int .u8 n1), (.string str1), (.string str2), (.slice s1.a s1.len s1.cap), (.int .i64 n2), (.int .i64 n3), (.slice s2.a s2.len s2.cap)]) ∧
          ∃ (a2 : Addr) (w2 : World),
          Sem.run Pr (Instr.alloc 68 true (.tuple #[])) w1 = .ok (.pointer (some a2)) w2 ∧
          ∃ (w3 : World),
          Sem.run Pr (Instr.storeAt 68 (.pointer (some a2)) (.agg #[(.int .u8 n1), (.string str1), (.string str2), (.slice s1.a s1.len s1.cap), (.int .i64 n2), (.int .i64 n3), (.slice s2.a s2.len s2.cap)])) w2 = .ok () w3 ∧
          brc (decide (σ1.1 < (100 : Int)))
            (∃ (s3 : SV),
              At Pr w3 (loadVar 26 (Addr.add a2 3)) (.slice s3.a s3.len s3.cap) ∧
              brc (decide (((s3.len : Nat) : Int) ≤ (50 : Int)))
                (∃ (str3 : ByteArray),
                  At Pr w3 (loadVar 9 (Addr.add a2 1)) (.string str3) ∧
                  brc (decide (((ByteArray.size str3 : Nat) : Int) ≤ (40 : Int)))
                    (∃ (str4 : ByteArray),
                      At Pr w3 (loadVar 9 (Addr.add a2 2)) (.string str4) ∧
                      brc (decide (((ByteArray.size str4 : Nat) : Int) ≤ (40 : Int)))
                        (∃ (s4 : SV),
                          At Pr w3 (loadVar 61 (Addr.add (Addr.add a2 5) 1)) (.slice s4.a s4.len s4.cap) ∧
                          brc (decide (((s4.len : Nat) : Int) ≤ (50 : Int)))
                            (∃ (n4 : Int) (str5 : ByteArray) (str6 : ByteArray) (s5 : SV) (n5 : Int) (n6 : Int) (s6 : SV),
                              At Pr w3 (loadVar 68 a2) (.agg #[(.int .u8 n4), (.string str5), (.string str6), (.slice s5.a s5.len s5.cap), (.int .i64 n5), (.int .i64 n6), (.slice s6.a s6.len s6.cap)]) ∧
                              ∃ (s7 : SV) (w4 : World),
                              Sem.run Pr (Instr.buildSlice 60 1 #[(0, (.agg #[(.int .u8 n4), (.string str5), (.string str6), (.slice s5.a s5.len s5.cap), (.int .i64 n5), (.int .i64 n6), (.slice s6.a s6.len s6.cap)]))]) w3 = .ok (.slice s7.a s7.len s7.cap) w4 ∧
                              ∃ (s8 : SV) (w5 : World),
                              Sem.run Pr (Builtin.append_ #[60, 60] 60 #[(.slice σ1.2.1.a σ1.2.1.len σ1.2.1.cap), (.slice s7.a s7.len s7.cap)]) w4 = .ok (.slice s8.a s8.len s8.cap) w5 ∧
                              K1 (IntKind.wrap .i64 (σ1.1 + 1), s8, ()) w5)
                            (K1 (IntKind.wrap .i64 (σ1.1 + 1), σ1.2.1, ()) w3))
                        (K1 (IntKind.wrap .i64 (σ1.1 + 1), σ1.2.1, ()) w3))
                    (K1 (IntKind.wrap .i64 (σ1.1 + 1), σ1.2.1, ()) w3))
                (K1 (IntKind.wrap .i64 (σ1.1 + 1), σ1.2.1, ()) w3))
            (K1 (IntKind.wrap .i64 (σ1.1 + 1), σ1.2.1, ()) w3))
      (R (.slice σ1.2.1.a σ1.2.1.len σ1.2.1.cap) w1)) (0, SV.mk none 0 0, ()) w0

theorem call37 {x0 : SV} {w0 : World} {R : Ending → World → Prop} (h : ir37 x0 w0 fun v w => R (.returned v) w) : Calls Pr 37 #[.slice x0.a x0.len x0.cap] w0 R := by
  refine calls_of_vc (ann := [(3, [(8, .int .i64), (3, .slice)])]) (E := []) (args := [.slice x0.a x0.len x0.cap]) follows Try.func37 rfl (by kernel_rfl) ?_
  apply by_eq h
  kernel_rfl

/-- creel/creellaw04.does -/
def ir38 (x0 : Option Addr) (x1_Kind : Int) (x1_Name : ByteArray) (x1_To : ByteArray) (x1_B : SV) (x1_N : Int) (x1_W_Names : Int) (x1_W_Bytes : SV) (w0 : World) (R : Value → World → Prop) : Prop :=
  ∃ (a1 : Addr) (w1 : World),
  Sem.run Pr (Instr.box 68 (.agg #[(.int .u8 x1_Kind), (.string x1_Name), (.string x1_To), (.slice x1_B.a x1_B.len x1_B.cap), (.int .i64 x1_N), (.int .i64 x1_W_Names), (.slice x1_W_Bytes.a x1_W_Bytes.len x1_W_Bytes.cap)])) w0 = .ok (.pointer (some a1)) w1 ∧
  ∃ (n1 : Int),
  At Pr w1 (loadVar 5 (Addr.add a1 0)) (.int .u8 n1) ∧
  (13 : Int) ≠ 0 ∧
  brc ((Int.tmod n1 13) == (0 : Int))
    (∃ (str1 : ByteArray),
      At Pr w1 (loadVar 9 (Addr.add a1 1)) (.string str1) ∧
      Calls Pr 32 #[(.pointer x0), (.string str1)] w1 fun e1 w2 =>
        ∃ (n2 : Int),
        e1 = .returned (.int .i64 n2) ∧
        R (.int .i64 n2) w2)
    (brc ((Int.tmod n1 13) == (4 : Int))
        (∃ (str2 : ByteArray),
          At Pr w1 (loadVar 9 (Addr.add a1 1)) (.string str2) ∧
          Calls Pr 28 #[(.pointer x0), (.string str2)] w1 fun e2 w3 =>
            ∃ (s1 : SV) (n3 : Int),
            e2 = .returned (.tuple #[(.slice s1.a s1.len s1.cap), (.int .i64 n3)]) ∧
            R (.int .i64 n3) w3)
        (brc ((Int.tmod n1 13) == (5 : Int))
            (∃ (str3 : ByteArray),
              At Pr w1 (loadVar 9 (Addr.add a1 1)) (.string str3) ∧
              Calls Pr 57 #[(.pointer x0), (.string str3)] w1 fun e3 w4 =>
                ∃ (n4 : Int),
                e3 = .returned (.int .i64 n4) ∧
                R (.int .i64 n4) w4)
            (brc ((Int.tmod n1 13) == (6 : Int))
                (∃ (str4 : ByteArray),
                  At Pr w1 (loadVar 9 (Addr.add a1 1)) (.string str4) ∧
                  ∃ (str5 : ByteArray),
                  At Pr w1 (loadVar 9 (Addr.add a1 2)) (.string str5) ∧
                  Calls Pr 85 #[(.pointer x0), (.string str4), (.string str5)] w1 fun e4 w5 =>
                    ∃ (n5 : Int),
                    e4 = .returned (.int .i64 n5) ∧
                    R (.int .i64 n5) w5)
                (brc ((Int.tmod n1 13) == (7 : Int))
                    (∃ (str6 : ByteArray),
                      At Pr w1 (loadVar 9 (Addr.add a1 1)) (.string str6) ∧
                      Calls Pr 86 #[(.pointer x0), (.string str6)] w1 fun e5 w6 =>
                        ∃ (n6 : Int),
                        e5 = .returned (.int .i64 n6) ∧
                        R (.int .i64 n6) w6)
                    (brc ((Int.tmod n1 13) == (8 : Int))
                        (Calls Pr 55 #[(.pointer x0)] w1 fun e6 w7 =>
                            ∃ (n7 : Int),
                            e6 = .returned (.int .i64 n7) ∧
                            R (.int .i64 n7) w7)
                        (brc ((Int.tmod n1 13) == (9 : Int))
                            (Calls Pr 50 #[(.pointer x0)] w1 fun e7 w8 =>
                                ∃ (s2 : SV) (n8 : Int),
                                e7 = .returned (.tuple #[(.slice s2.a s2.len s2.cap), (.int .i64 n8)]) ∧
                                R (.int .i64 n8) w8)
                            (brc ((Int.tmod n1 13) == (10 : Int))
                                (∃ (n9 : Int),
                                  At Pr w1 (loadVar 3 (Addr.add a1 4)) (.int .i64 n9) ∧
                                  Calls Pr 49 #[(.pointer x0), (.int .i64 n9)] w1 fun e8 w9 =>
                                    ∃ (n10 : Int),
                                    e8 = .returned (.int .i64 n10) ∧
                                    R (.int .i64 n10) w9)
                                (brc ((Int.tmod n1 13) == (11 : Int))
                                    (∃ (n11 : Int) (s3 : SV),
                                      At Pr w1 (loadVar 63 (Addr.add a1 5)) (.agg #[(.int .i64 n11), (.slice s3.a s3.len s3.cap)]) ∧
                                      Calls Pr 45 #[(.pointer x0), (.agg #[(.int .i64 n11), (.slice s3.a s3.len s3.cap)])] w1 fun e9 w10 =>
                                        ∃ (n12 : Int),
                                        e9 = .returned (.int .i64 n12) ∧
                                        R (.int .i64 n12) w10)
                                    (brc ((Int.tmod n1 13) == (12 : Int))
                                        (∃ (n13 : Int),
                                          At Pr w1 (loadVar 3 (Addr.add a1 4)) (.int .i64 n13) ∧
                                          Calls Pr 95 #[(.pointer x0), (.int .i64 n13)] w1 fun e10 w11 =>
                                            ∃ (n14 : Int),
                                            e10 = .returned (.int .i64 n14) ∧
                                            R (.int .i64 n14) w11)
                                        (∃ (str7 : ByteArray),
                                          At Pr w1 (loadVar 9 (Addr.add a1 1)) (.string str7) ∧
                                          ∃ (s4 : SV),
                                          At Pr w1 (loadVar 26 (Addr.add a1 3)) (.slice s4.a s4.len s4.cap) ∧
                                          Calls Pr 33 #[(.pointer x0), (.string str7), (.slice s4.a s4.len s4.cap)] w1 fun e11 w12 =>
                                            ∃ (n15 : Int),
                                            e11 = .returned (.int .i64 n15) ∧
                                            R (.int .i64 n15) w12))))))))))

theorem call38 {x0 : Option Addr} {x1_Kind : Int} {x1_Name : ByteArray} {x1_To : ByteArray} {x1_B : SV} {x1_N : Int} {x1_W_Names : Int} {x1_W_Bytes : SV} {w0 : World} {R : Ending → World → Prop} (h : ir38 x0 x1_Kind x1_Name x1_To x1_B x1_N x1_W_Names x1_W_Bytes w0 fun v w => R (.returned v) w) : Calls Pr 38 #[.pointer x0, .agg #[(.int .u8 x1_Kind), (.string x1_Name), (.string x1_To), (.slice x1_B.a x1_B.len x1_B.cap), (.int .i64 x1_N), (.int .i64 x1_W_Names), (.slice x1_W_Bytes.a x1_W_Bytes.len x1_W_Bytes.cap)]] w0 R := by
  refine calls_of_vc (ann := []) (E := []) (args := [.pointer x0, .agg #[(.int .u8 x1_Kind), (.string x1_Name), (.string x1_To), (.slice x1_B.a x1_B.len x1_B.cap), (.int .i64 x1_N), (.int .i64 x1_W_Names), (.slice x1_W_Bytes.a x1_W_Bytes.len x1_W_Bytes.cap)]]) follows Try.func38 rfl (by kernel_rfl) ?_
  apply by_eq h
  kernel_rfl

/-- creel/creellaw04.same -/
def ir43 (x0 : Option Addr) (x1 : Option Addr) (w0 : World) (R : Value → World → Prop) : Prop :=
  Calls Pr 50 #[(.pointer x0)] w0 fun e1 w1 =>
    ∃ (s1 : SV) (n1 : Int),
    e1 = .returned (.tuple #[(.slice s1.a s1.len s1.cap), (.int .i64 n1)]) ∧
    Calls Pr 101 #[(.pointer x1)] w1 fun e2 w2 =>
      ∃ (s2 : SV) (n2 : Int),
      e2 = .returned (.tuple #[(.slice s2.a s2.len s2.cap), (.int .i64 n2)]) ∧
      Calls Pr 107 #[(.slice s1.a s1.len s1.cap), (.slice s2.a s2.len s2.cap)] w2 fun e3 w3 =>
        ∃ (b1 : Bool),
        e3 = .returned (.bool b1) ∧
        brc (!b1)
          (R (.bool false) w3)
          (brc (n1 != n2)
              (R (.bool false) w3)
              (Calls Pr 40 #[(.pointer x0)] w3 fun e4 w4 =>
                  ∃ (n3 : Int),
                  e4 = .returned (.int .i64 n3) ∧
                  Calls Pr 41 #[(.pointer x1)] w4 fun e5 w5 =>
                    ∃ (n4 : Int),
                    e5 = .returned (.int .i64 n4) ∧
                    brc (n3 != n4)
                      (R (.bool false) w5)
                      (LoopT (σ := Int × Unit) (fun σ1 w6 K1 =>
                          ∀ _ : Env,
                          brc (decide (σ1.1 < ((s2.len : Nat) : Int)))
                            (((0 : Int) ≤ σ1.1 ∧ σ1.1 < ((s2.len : Nat) : Int)) ∧
                              optK s2.a fun a1 =>
                                ∃ (str1 : ByteArray),
                                At Pr w6 (loadVar 9 (Addr.add a1 (Int.toNat σ1.1 * 1))) (.string str1) ∧
                                Calls Pr 28 #[(.pointer x0), (.string str1)] w6 fun e6 w7 =>
                                  ∃ (s3 : SV) (n5 : Int),
                                  e6 = .returned (.tuple #[(.slice s3.a s3.len s3.cap), (.int .i64 n5)]) ∧
                                  Calls Pr 64 #[(.pointer x1), (.string str1)] w7 fun e7 w8 =>
                                    ∃ (s4 : SV) (n6 : Int),
                                    e7 = .returned (.tuple #[(.slice s4.a s4.len s4.cap), (.int .i64 n6)]) ∧
                                    ∃ (str2 : ByteArray),
                                    At Pr w8 (convert 26 9 (.slice s3.a s3.len s3.cap)) (.string str2) ∧
                                    ∃ (str3 : ByteArray),
                                    At Pr w8 (convert 26 9 (.slice s4.a s4.len s4.cap)) (.string str3) ∧
                                    brc (!(ByteArray.toList str2 == ByteArray.toList str3))
                                      (R (.bool false) w8)
                                      (brc (n5 != n6)
                                          (R (.bool false) w8)
                                          (K1 (IntKind.wrap .i64 (σ1.1 + 1), ()) w8)))
                            (R (.bool true) w6)) (0, ()) w5)))

theorem call43 {x0 : Option Addr} {x1 : Option Addr} {w0 : World} {R : Ending → World → Prop} (h : ir43 x0 x1 w0 fun v w => R (.returned v) w) : Calls Pr 43 #[.pointer x0, .pointer x1] w0 R := by
  refine calls_of_vc (ann := [(6, [(43, .int .i64)])]) (E := []) (args := [.pointer x0, .pointer x1]) follows Try.func43 rfl (by kernel_rfl) ?_
  apply by_eq h
  kernel_rfl

/-- creel/creellaw04.texts -/
def ir107 (x0 : SV) (x1 : SV) (w0 : World) (R : Value → World → Prop) : Prop :=
  brc (((x0.len : Nat) : Int) != ((x1.len : Nat) : Int))
    (R (.bool false) w0)
    (LoopT (σ := Int × Unit) (fun σ1 w1 K1 =>
        ∀ _ : Env,
        brc (decide (σ1.1 < ((x0.len : Nat) : Int)))
          (∃ (S1 : World → Prop),
            S1 (World.drew w1) ∧
            ((0 : Int) ≤ σ1.1 ∧ σ1.1 < ((x0.len : Nat) : Int)) ∧
            optK x0.a fun a1 =>
              ∃ (str1 : ByteArray),
              AtS Pr S1 (loadVar 9 (Addr.add a1 (Int.toNat σ1.1 * 1))) (.string str1) ∧
              ((0 : Int) ≤ σ1.1 ∧ σ1.1 < ((x1.len : Nat) : Int)) ∧
              optK x1.a fun a2 =>
                ∃ (str2 : ByteArray),
                AtS Pr S1 (loadVar 9 (Addr.add a2 (Int.toNat σ1.1 * 1))) (.string str2) ∧
                brc (!(ByteArray.toList str1 == ByteArray.toList str2))
                  (R (.bool false) (World.drew w1))
                  (K1 (IntKind.wrap .i64 (σ1.1 + 1), ()) (World.drew w1)))
          (R (.bool true) w1)) (0, ()) w0)

theorem call107 {x0 : SV} {x1 : SV} {w0 : World} {R : Ending → World → Prop} (h : ir107 x0 x1 w0 fun v w => R (.returned v) w) : Calls Pr 107 #[.slice x0.a x0.len x0.cap, .slice x1.a x1.len x1.cap] w0 R := by
  refine calls_of_vc (ann := [(4, [(13, .int .i64)])]) (E := []) (args := [.slice x0.a x0.len x0.cap, .slice x1.a x1.len x1.cap]) follows Try.func107 rfl (by kernel_rfl) ?_
  apply by_eq h
  kernel_rfl

/-- creel/creellaw04.DiskPlays -/
def ir7 (x0 : Int) (x1 : SV) (x2_Names : Int) (x2_Bytes : SV) (w0 : World) (R : Value → World → Prop) : Prop :=
  ∃ (a1 : Addr) (w1 : World),
  Sem.run Pr (Instr.box 63 (.agg #[(.int .i64 x2_Names), (.slice x2_Bytes.a x2_Bytes.len x2_Bytes.cap)])) w0 = .ok (.pointer (some a1)) w1 ∧
  Calls Pr 35 #[] w1 fun e1 w2 =>
    ∃ (b1 : Bool),
    e1 = .returned (.bool b1) ∧
    Calls Pr 25 #[(.int .i64 x0)] w2 fun e2 w3 =>
      ∃ (p1 : Option Addr),
      e2 = .returned (.pointer p1) ∧
      Calls Pr 36 #[(.int .i64 x0)] w3 fun e3 w4 =>
        ∃ (p2 : Option Addr),
        e3 = .returned (.pointer p2) ∧
        brc (Option.isNone p1)
          (R (.bool false) w4)
          (Calls Pr 37 #[(.slice x1.a x1.len x1.cap)] w4 fun e4 w5 =>
              ∃ (s1 : SV),
              e4 = .returned (.slice s1.a s1.len s1.cap) ∧
              LoopT (σ := Int × Unit) (fun σ1 w6 K1 =>
                ∀ _ : Env,
                brc (decide (σ1.1 < ((s1.len : Nat) : Int)))
                  (((0 : Int) ≤ σ1.1 ∧ σ1.1 < ((s1.len : Nat) : Int)) ∧
                    optK s1.a fun a2 =>
                      ∃ (n1 : Int) (str1 : ByteArray) (str2 : ByteArray) (s2 : SV) (n2 : Int) (n3 : Int) (s3 : SV),
                      At Pr w6 (loadVar 68 (Addr.add a2 (Int.toNat σ1.1 * 7))) (.agg #[(.int .u8 n1), (.string str1), (.string str2), (.slice s2.a s2.len s2.cap), (.int .i64 n2), (.int .i64 n3), (.slice s3.a s3.len s3.cap)]) ∧
                      ∃ (a3 : Addr) (w7 : World),
                      Sem.run Pr (Instr.alloc 68 true (.tuple #[])) w6 = .ok (.pointer (some a3)) w7 ∧
                      ∃ (w8 : World),
                      Sem.run Pr (Instr.storeAt 68 (.pointer (some a3)) (.agg #[(.int .u8 n1), (.string str1), (.string str2), (.slice s2.a s2.len s2.cap), (.int .i64 n2), (.int .i64 n3), (.slice s3.a s3.len s3.cap)])) w7 = .ok () w8 ∧
                      ∃ (S1 : World → Prop),
                      S1 (World.drew w8) ∧
                      ∃ (n4 : Int) (str3 : ByteArray) (str4 : ByteArray) (s4 : SV) (n5 : Int) (n6 : Int) (s5 : SV),
                      AtS Pr S1 (loadVar 68 a3) (.agg #[(.int .u8 n4), (.string str3), (.string str4), (.slice s4.a s4.len s4.cap), (.int .i64 n5), (.int .i64 n6), (.slice s5.a s5.len s5.cap)]) ∧
                      ∃ (n7 : Int) (str5 : ByteArray) (str6 : ByteArray) (s6 : SV) (n8 : Int) (n9 : Int) (s7 : SV),
                      AtS Pr S1 (loadVar 68 a3) (.agg #[(.int .u8 n7), (.string str5), (.string str6), (.slice s6.a s6.len s6.cap), (.int .i64 n8), (.int .i64 n9), (.slice s7.a s7.len s7.cap)]) ∧
                      Calls Pr 38 #[(.pointer p1), (.agg #[(.int .u8 n4), (.string str3), (.string str4), (.slice s4.a s4.len s4.cap), (.int .i64 n5), (.int .i64 n6), (.slice s5.a s5.len s5.cap)])] (World.drew w8) fun e5 w9 =>
                        ∃ (n10 : Int),
                        e5 = .returned (.int .i64 n10) ∧
                        ∃ (S2 : World → Prop),
                        (∀ w, S2 w → S1 w) ∧
                        S2 w9 ∧
                        Calls Pr 39 #[(.pointer p2), (.agg #[(.int .u8 n7), (.string str5), (.string str6), (.slice s6.a s6.len s6.cap), (.int .i64 n8), (.int .i64 n9), (.slice s7.a s7.len s7.cap)])] w9 fun e6 w10 =>
                          ∃ (n11 : Int),
                          e6 = .returned (.int .i64 n11) ∧
                          ∃ (S3 : World → Prop),
                          (∀ w, S3 w → S2 w) ∧
                          S3 w10 ∧
                          brc (n10 != n11)
                            (R (.bool false) w10)
                            (Calls Pr 40 #[(.pointer p1)] w10 fun e7 w11 =>
                                ∃ (n12 : Int),
                                e7 = .returned (.int .i64 n12) ∧
                                ∃ (S4 : World → Prop),
                                (∀ w, S4 w → S3 w) ∧
                                S4 w11 ∧
                                Calls Pr 41 #[(.pointer p2)] w11 fun e8 w12 =>
                                  ∃ (n13 : Int),
                                  e8 = .returned (.int .i64 n13) ∧
                                  ∃ (S5 : World → Prop),
                                  (∀ w, S5 w → S4 w) ∧
                                  S5 w12 ∧
                                  brc (n12 != n13)
                                    (R (.bool false) w12)
                                    (K1 (IntKind.wrap .i64 (σ1.1 + 1), ()) w12)))
                  (Calls Pr 42 #[(.pointer p1)] w6 fun e9 w13 =>
                      ∃ (p3 : Option Addr),
                      e9 = .returned (.pointer p3) ∧
                      brc (Option.isNone p3)
                        (R (.bool false) w13)
                        (Calls Pr 44 #[(.pointer p2)] w13 fun e10 w14 =>
                            ∃ (p4 : Option Addr),
                            e10 = .returned (.pointer p4) ∧
                            Calls Pr 43 #[(.pointer p1), (.pointer p4)] w14 fun e11 w15 =>
                              ∃ (b2 : Bool),
                              e11 = .returned (.bool b2) ∧
                              brc (!b2)
                                (R (.bool false) w15)
                                (∃ (n14 : Int) (s8 : SV),
                                  At Pr w15 (loadVar 63 a1) (.agg #[(.int .i64 n14), (.slice s8.a s8.len s8.cap)]) ∧
                                  Calls Pr 45 #[(.pointer p3), (.agg #[(.int .i64 n14), (.slice s8.a s8.len s8.cap)])] w15 fun e12 w16 =>
                                    ∃ (n15 : Int),
                                    e12 = .returned (.int .i64 n15) ∧
                                    ∃ (n16 : Int) (s9 : SV),
                                    At Pr w16 (loadVar 63 a1) (.agg #[(.int .i64 n16), (.slice s9.a s9.len s9.cap)]) ∧
                                    Calls Pr 46 #[(.pointer p2), (.agg #[(.int .i64 n16), (.slice s9.a s9.len s9.cap)])] w16 fun e13 w17 =>
                                      ∃ (n17 : Int),
                                      e13 = .returned (.int .i64 n17) ∧
                                      brc (b1)
                                        (Calls Pr 43 #[(.pointer p3), (.pointer p2)] w17 fun e14 w18 =>
                                            ∃ (b3 : Bool),
                                            e14 = .returned (.bool b3) ∧
                                            R (.bool b3) w18)
                                        (R (.bool false) w17))))) (0, ()) w5)

theorem call7 {x0 : Int} {x1 : SV} {x2_Names : Int} {x2_Bytes : SV} {w0 : World} {R : Ending → World → Prop} (h : ir7 x0 x1 x2_Names x2_Bytes w0 fun v w => R (.returned v) w) : Calls Pr 7 #[.int .i64 x0, .slice x1.a x1.len x1.cap, .agg #[(.int .i64 x2_Names), (.slice x2_Bytes.a x2_Bytes.len x2_Bytes.cap)]] w0 R := by
  refine calls_of_vc (ann := [(6, [(23, .int .i64)])]) (E := []) (args := [.int .i64 x0, .slice x1.a x1.len x1.cap, .agg #[(.int .i64 x2_Names), (.slice x2_Bytes.a x2_Bytes.len x2_Bytes.cap)]]) follows Try.func7 rfl (by kernel_rfl) ?_
  apply by_eq h
  kernel_rfl

end Go.Proofs.Ytonjaaljnjjjcaa

/- DiskPlays: acts, in plain Lean, and as both disks do them. Conditions: as each lemma says. -/
set_option linter.unusedVariables false
set_option linter.unusedSimpArgs false
namespace Go.Proofs.Ytonjaaljnjjjcaa
open Go Go.RowKit

/-- An act: what it says, and where its bytes and numbers lie. -/
structure Act where
  kind : Int
  name : ByteArray
  to : ByteArray
  sb : SV
  b : List UInt8
  n : Int
  wn : Int
  swb : SV
  wb : List Int

def encA (x : Act) : List Value := [.int .u8 x.kind, .string x.name, .string x.to, slV x.sb, .int .i64 x.n, .int .i64 x.wn, slV x.swb]
theorem encA_ok : EncOk encA 7 := ⟨fun _ => rfl, fun x u hu => by simp [encA] at hu; rcases hu with rfl | rfl | rfl | rfl | rfl | rfl | rfl <;> rfl, by decide⟩
theorem ti60 : TI 60 68 7 104 (.agg #[.int .u8 0, .string ByteArray.empty, .string ByteArray.empty, .slice none 0 0, .int .i64 0, .int .i64 0, .slice none 0 0]) := ⟨by kernel_rfl, by kernel_rfl, rfl, by decide⟩
theorem z68 : (Pr.info? 68).bind (·.zero) = some (.agg #[.int .u8 0, .string ByteArray.empty, .string ByteArray.empty, .slice none 0 0, .int .i64 0, .int .i64 0, .slice none 0 0]) := by kernel_rfl

/-- Its bytes and its numbers can be read. -/
structure ActOk (I : List Chunk) (x : Act) : Prop where
  b : RdB I x.sb x.b
  wb : RdS I 1 x.swb (x.wb.map intV)
  n : x.n ≤ 9223372036854775807

theorem ActOk.mono {I I' : List Chunk} {x : Act} (h : ActOk I x) (hI : ∀ c ∈ I, c ∈ I') : ActOk I' x := ⟨h.b.mono hI, h.wb.mono hI, h.n⟩

def actM (M : MDisk) (x : Act) : Int × MDisk :=
  if Int.tmod x.kind 13 = 0 then M.create x.name
  else if Int.tmod x.kind 13 = 4 then ((M.read x.name).1, (M.read x.name).2.2)
  else if Int.tmod x.kind 13 = 5 then M.sync x.name
  else if Int.tmod x.kind 13 = 6 then M.rename x.name x.to
  else if Int.tmod x.kind 13 = 7 then M.remove x.name
  else if Int.tmod x.kind 13 = 8 then M.syncNames
  else if Int.tmod x.kind 13 = 9 then (M.names.1, M.names.2.2)
  else if Int.tmod x.kind 13 = 10 then M.doom x.n
  else if Int.tmod x.kind 13 = 11 then (0, M.crash x.wn x.wb)
  else if Int.tmod x.kind 13 = 12 then M.grow x.n
  else M.append x.name x.b

theorem actM_good {M : MDisk} (h : M.Good) (x : Act) : (actM M x).2.Good := by
  unfold actM
  split
  · exact h.create _
  split
  · exact h.read _
  split
  · exact h.sync _
  split
  · exact h.rename _ _
  split
  · exact h.remove _
  split
  · exact h.syncNames
  split
  · exact h.names
  split
  · exact h.doom _
  split
  · exact h.crash _ _
  split
  · exact h.grow _
  · exact h.append _ _

theorem actM_small {M : MDisk} {n b : Nat} (hg : M.Good) (h : M.Small n b) {x : Act} (hx : x.n ≤ 9223372036854775807) : (actM M x).2.Small (n + 1) (b + x.b.length) := by
  unfold actM
  split
  · exact (h.create _).mono (by omega) (by omega)
  split
  · exact (h.read _).mono (by omega) (by omega)
  split
  · exact (h.sync _).mono (by omega) (by omega)
  split
  · exact (h.rename _ _).mono (by omega) (by omega)
  split
  · exact (h.remove _).mono (by omega) (by omega)
  split
  · exact (h.syncNames hg).mono (by omega) (by omega)
  split
  · exact h.names'.mono (by omega) (by omega)
  split
  · exact (h.doom hx).mono (by omega) (by omega)
  split
  · exact (h.crash _ _).mono (by omega) (by omega)
  split
  · exact (h.grow _).mono (by omega) (by omega)
  · exact (h.append _ _).mono (by omega) (by omega)

theorem small_tot {M : MDisk} {n b : Nat} (h : M.Small n b) (hn : n ≤ 1000) (hb : b ≤ 100000) : M.total ≤ 100000000 :=
  Nat.le_trans h.total (Nat.mul_le_mul hn hb)

theorem chunkIn {X : Chunk} {A L : List Chunk} {E w : World} (hS : Sep E w (X :: (A ++ L))) : Sep E w (A ++ (X :: L)) := hS.weak (by intro f; simp only [ms_append, ms_cons]; omega)

/-- does. -/
theorem k38 {E w : World} {L I : List Chunk} {M : MDisk} {D : DS} {d n b : Nat} (hS : Sep E w (D.chunks M d ++ L)) (hD : DRep D M I) (hI : ∀ c ∈ I, c ∈ L) (hg : M.Good) (hm : M.Small n b) (hn : n ≤ 1000) (hb : b ≤ 100000) {x : Act} (hx : ActOk L x) (hxb : x.b.length ≤ 100000) :
    Calls Pr 38 #[.pointer (some ⟨d, 0, none⟩), .agg (encA x).toArray] w fun e w' => ∃ (D' : DS) (C : List Chunk), e = .returned (.int .i64 (actM M x).1) ∧ DRep D' (actM M x).2 (C ++ I) ∧ Sep E w' (D'.chunks (actM M x).2 d ++ (C ++ L)) := by
  have hc := small_ch hm
  have hT := small_tot hm hn hb
  have hnl := small_now hg hm
  refine call38 ?_
  unfold ir38
  obtain ⟨a, w1, h1, hS1⟩ := hS.newVar (t := 68) (v := .agg (encA x).toArray)
  let X : Chunk := (a, .cells (encA x).toArray 68 (0, 0))
  have hS1 : Sep E w1 (X :: (D.chunks M d ++ L)) := hS1
  have hS2 := chunkIn hS1
  have hI2 : ∀ c ∈ I, c ∈ X :: L := fun c hc => List.mem_cons_of_mem _ (hI c hc)
  refine ⟨_, w1, h1, x.kind, hS1.load (b := a) (o := 0) List.mem_cons_self rfl (by kernel_rfl), by decide, ?_⟩
  have ln : At Pr w1 (loadVar 9 (Addr.add ⟨a, 0, none⟩ 1)) (.string x.name) := hS1.load (b := a) (o := 1) List.mem_cons_self rfl (by kernel_rfl)
  have fin : ∀ {D' : DS} {M' : MDisk} {C : List Chunk} {w' : World}, DRep D' M' (C ++ I) → Sep E w' (D'.chunks M' d ++ (C ++ (X :: L))) → ∃ C', DRep D' M' (C' ++ I) ∧ Sep E w' (D'.chunks M' d ++ (C' ++ L)) := fun hD hS => ⟨_ ++ [X], hD.mono fun c hc => by
      simp only [List.mem_append, List.mem_singleton] at hc ⊢
      rcases hc with hc | hc
      · exact .inl (.inl hc)
      · exact .inr hc, hS.weak (by intro f; simp only [ms_append, ms_cons, ms_nil]; omega)⟩
  refine brc_intro (fun h0 => ?_) (fun h0 => ?_)
  · have h0 : Int.tmod x.kind 13 = 0 := by simpa using h0
    have e : actM M x = M.create x.name := by unfold actM; rw [if_pos h0]
    rw [e]
    refine ⟨x.name, ln, (k32 hm.left (by omega) hS2 hD x.name).mono ?_⟩
    rintro _ w2 ⟨D', C, rfl, hD', hS'⟩
    obtain ⟨C', h1, h2⟩ := fin (hD'.right C) hS'
    exact ⟨_, rfl, D', C', rfl, h1, h2⟩
  have h0 : ¬ Int.tmod x.kind 13 = 0 := by simpa using h0
  refine brc_intro (fun h4 => ?_) (fun h4 => ?_)
  · have h4 : Int.tmod x.kind 13 = 4 := by simpa using h4
    have e : actM M x = ((M.read x.name).1, (M.read x.name).2.2) := by unfold actM; rw [if_neg h0, if_pos h4]
    rw [e]
    refine ⟨x.name, ln, (k28 hm.left hS2 hD hI2 x.name (fun f hf => by have := hm.each f hf; omega)).mono ?_⟩
    rintro _ w2 ⟨s, C, rfl, _, _, hD', hS'⟩
    obtain ⟨C', h1, h2⟩ := fin (hD'.right C) hS'
    exact ⟨s, _, rfl, D, C', rfl, h1, h2⟩
  have h4 : ¬ Int.tmod x.kind 13 = 4 := by simpa using h4
  refine brc_intro (fun h5 => ?_) (fun h5 => ?_)
  · have h5 : Int.tmod x.kind 13 = 5 := by simpa using h5
    have e : actM M x = M.sync x.name := by unfold actM; rw [if_neg h0, if_neg h4, if_pos h5]
    rw [e]
    refine ⟨x.name, ln, (k57 hm.left hS2 hD x.name).mono ?_⟩
    rintro _ w2 ⟨D', rfl, hD', hS'⟩
    obtain ⟨C', h1, h2⟩ := fin (C := []) hD' hS'
    exact ⟨_, rfl, D', C', rfl, h1, h2⟩
  have h5 : ¬ Int.tmod x.kind 13 = 5 := by simpa using h5
  refine brc_intro (fun h6 => ?_) (fun h6 => ?_)
  · have h6 : Int.tmod x.kind 13 = 6 := by simpa using h6
    have e : actM M x = M.rename x.name x.to := by unfold actM; rw [if_neg h0, if_neg h4, if_neg h5, if_pos h6]
    rw [e]
    refine ⟨x.name, ln, x.to, hS1.load (b := a) (o := 2) List.mem_cons_self rfl (by kernel_rfl), (k85 hm.left (by omega) hS2 hD x.name x.to).mono ?_⟩
    rintro _ w2 ⟨D', C, rfl, hD', hS'⟩
    obtain ⟨C', h1, h2⟩ := fin (hD'.right C) hS'
    exact ⟨_, rfl, D', C', rfl, h1, h2⟩
  have h6 : ¬ Int.tmod x.kind 13 = 6 := by simpa using h6
  refine brc_intro (fun h7 => ?_) (fun h7 => ?_)
  · have h7 : Int.tmod x.kind 13 = 7 := by simpa using h7
    have e : actM M x = M.remove x.name := by unfold actM; rw [if_neg h0, if_neg h4, if_neg h5, if_neg h6, if_pos h7]
    rw [e]
    refine ⟨x.name, ln, (k86 hm.left (by omega) hS2 hD x.name).mono ?_⟩
    rintro _ w2 ⟨D', C, rfl, hD', hS'⟩
    obtain ⟨C', h1, h2⟩ := fin (hD'.right C) hS'
    exact ⟨_, rfl, D', C', rfl, h1, h2⟩
  have h7 : ¬ Int.tmod x.kind 13 = 7 := by simpa using h7
  refine brc_intro (fun h8 => ?_) (fun h8 => ?_)
  · have h8 : Int.tmod x.kind 13 = 8 := by simpa using h8
    have e : actM M x = M.syncNames := by unfold actM; rw [if_neg h0, if_neg h4, if_neg h5, if_neg h6, if_neg h7, if_pos h8]
    rw [e]
    refine (k55 hm.left hS2 hD).mono ?_
    rintro _ w2 ⟨D', C, rfl, hD', hS'⟩
    obtain ⟨C', h1, h2⟩ := fin (hD'.right C) hS'
    exact ⟨_, rfl, D', C', rfl, h1, h2⟩
  have h8 : ¬ Int.tmod x.kind 13 = 8 := by simpa using h8
  refine brc_intro (fun h9 => ?_) (fun h9 => ?_)
  · have h9 : Int.tmod x.kind 13 = 9 := by simpa using h9
    have e : actM M x = (M.names.1, M.names.2.2) := by unfold actM; rw [if_neg h0, if_neg h4, if_neg h5, if_neg h6, if_neg h7, if_neg h8, if_pos h9]
    rw [e]
    refine (k50 hm.left hS2 hD (by omega)).mono ?_
    rintro _ w2 ⟨s, C, rfl, _, hD', hS'⟩
    obtain ⟨C', h1, h2⟩ := fin (hD'.right C) hS'
    exact ⟨s, _, rfl, D, C', rfl, h1, h2⟩
  have h9 : ¬ Int.tmod x.kind 13 = 9 := by simpa using h9
  refine brc_intro (fun h10 => ?_) (fun h10 => ?_)
  · have h10 : Int.tmod x.kind 13 = 10 := by simpa using h10
    have e : actM M x = M.doom x.n := by unfold actM; rw [if_neg h0, if_neg h4, if_neg h5, if_neg h6, if_neg h7, if_neg h8, if_neg h9, if_pos h10]
    rw [e]
    refine ⟨x.n, hS1.load (b := a) (o := 4) List.mem_cons_self rfl (by kernel_rfl), (k49 hS2 hD x.n).mono ?_⟩
    rintro _ w2 ⟨rfl, hD', hS'⟩
    obtain ⟨C', h1, h2⟩ := fin (C := []) hD' hS'
    exact ⟨_, rfl, D, C', rfl, h1, h2⟩
  have h10 : ¬ Int.tmod x.kind 13 = 10 := by simpa using h10
  refine brc_intro (fun h11 => ?_) (fun h11 => ?_)
  · have h11 : Int.tmod x.kind 13 = 11 := by simpa using h11
    have e : actM M x = (0, M.crash x.wn x.wb) := by unfold actM; rw [if_neg h0, if_neg h4, if_neg h5, if_neg h6, if_neg h7, if_neg h8, if_neg h9, if_neg h10, if_pos h11]
    rw [e]
    refine ⟨x.wn, x.swb, hS1.loadS (b := a) (o := 5) (n := 2) List.mem_cons_self (by kernel_rfl) (by kernel_rfl) rfl (by simp [encA]), (k45 hS2 hD hI2 hg hm (by omega) (by omega) x.wn (hx.wb.mono fun c hc => List.mem_cons_of_mem _ hc)).mono ?_⟩
    rintro _ w2 ⟨D', C, rfl, hD', hS'⟩
    obtain ⟨C', h1, h2⟩ := fin (hD'.right C) hS'
    exact ⟨_, rfl, D', C', rfl, h1, h2⟩
  have h11 : ¬ Int.tmod x.kind 13 = 11 := by simpa using h11
  refine brc_intro (fun h12 => ?_) (fun h12 => ?_)
  · have h12 : Int.tmod x.kind 13 = 12 := by simpa using h12
    have e : actM M x = M.grow x.n := by unfold actM; rw [if_neg h0, if_neg h4, if_neg h5, if_neg h6, if_neg h7, if_neg h8, if_neg h9, if_neg h10, if_neg h11, if_pos h12]
    rw [e]
    refine ⟨x.n, hS1.load (b := a) (o := 4) List.mem_cons_self rfl (by kernel_rfl), (k95 hS2 hD x.n).mono ?_⟩
    rintro _ w2 ⟨rfl, hD', hS'⟩
    obtain ⟨C', h1, h2⟩ := fin (C := []) hD' hS'
    exact ⟨_, rfl, D, C', rfl, h1, h2⟩
  have h12 : ¬ Int.tmod x.kind 13 = 12 := by simpa using h12
  have e : actM M x = M.append x.name x.b := by unfold actM; rw [if_neg h0, if_neg h4, if_neg h5, if_neg h6, if_neg h7, if_neg h8, if_neg h9, if_neg h10, if_neg h11, if_neg h12]
  rw [e]
  refine ⟨x.name, ln, x.sb, hS1.load (b := a) (o := 3) List.mem_cons_self rfl (by kernel_rfl), (k33 hm.left hS2 hD (by omega) (by omega) hI2 x.name (hx.b.mono fun c hc => List.mem_cons_of_mem _ hc) (by omega)).mono ?_⟩
  rintro _ w2 ⟨D', C, rfl, hD', hS'⟩
  obtain ⟨C', h1, h2⟩ := fin hD' hS'
  exact ⟨_, rfl, D', C', rfl, h1, h2⟩

/-- did. -/
theorem k39 {E w : World} {L I : List Chunk} {M : MDisk} {R : RS} {d n b : Nat} (hS : Sep E w (R.chunks M d ++ L)) (hR : RRep R M I) (hI : ∀ c ∈ I, c ∈ L) (hg : M.Good) (hm : M.Small n b) (hn : n ≤ 1000) (hb : b ≤ 100000) {x : Act} (hx : ActOk L x) (hxb : x.b.length ≤ 100000) :
    Calls Pr 39 #[.pointer (some ⟨d, 0, none⟩), .agg (encA x).toArray] w fun e w' => ∃ (R' : RS) (C : List Chunk), e = .returned (.int .i64 (actM M x).1) ∧ RRep R' (actM M x).2 (C ++ I) ∧ Sep E w' (R'.chunks (actM M x).2 d ++ (C ++ L)) := by
  refine call39 ?_
  unfold ir39
  obtain ⟨a, w1, h1, hS1⟩ := hS.newVar (t := 68) (v := .agg (encA x).toArray)
  let X : Chunk := (a, .cells (encA x).toArray 68 (0, 0))
  have hS1 : Sep E w1 (X :: (R.chunks M d ++ L)) := hS1
  have hS2 := chunkIn hS1
  have hI2 : ∀ c ∈ I, c ∈ X :: L := fun c hc => List.mem_cons_of_mem _ (hI c hc)
  refine ⟨_, w1, h1, x.kind, hS1.load (b := a) (o := 0) List.mem_cons_self rfl (by kernel_rfl), by decide, ?_⟩
  have ln : At Pr w1 (loadVar 9 (Addr.add ⟨a, 0, none⟩ 1)) (.string x.name) := hS1.load (b := a) (o := 1) List.mem_cons_self rfl (by kernel_rfl)
  have fin : ∀ {R' : RS} {M' : MDisk} {C : List Chunk} {w' : World}, RRep R' M' (C ++ I) → Sep E w' (R'.chunks M' d ++ (C ++ (X :: L))) → ∃ C', RRep R' M' (C' ++ I) ∧ Sep E w' (R'.chunks M' d ++ (C' ++ L)) := fun hD hS => ⟨_ ++ [X], hD.mono fun c hc => by
      simp only [List.mem_append, List.mem_singleton] at hc ⊢
      rcases hc with hc | hc
      · exact .inl (.inl hc)
      · exact .inr hc, hS.weak (by intro f; simp only [ms_append, ms_cons, ms_nil]; omega)⟩
  refine brc_intro (fun h0 => ?_) (fun h0 => ?_)
  · have h0 : Int.tmod x.kind 13 = 0 := by simpa using h0
    have e : actM M x = M.create x.name := by unfold actM; rw [if_pos h0]
    rw [e]
    refine ⟨x.name, ln, (k96 hS2 hR hI2 hg hm (by omega) x.name).mono ?_⟩
    rintro _ w2 ⟨R', C, rfl, hR', hS'⟩
    obtain ⟨C', h1, h2⟩ := fin hR' hS'
    exact ⟨_, rfl, R', C', rfl, h1, h2⟩
  have h0 : ¬ Int.tmod x.kind 13 = 0 := by simpa using h0
  refine brc_intro (fun h4 => ?_) (fun h4 => ?_)
  · have h4 : Int.tmod x.kind 13 = 4 := by simpa using h4
    have e : actM M x = ((M.read x.name).1, (M.read x.name).2.2) := by unfold actM; rw [if_neg h0, if_pos h4]
    rw [e]
    refine ⟨x.name, ln, (k64 hS2 hR hI2 hg hm (by omega) (by omega) x.name).mono ?_⟩
    rintro _ w2 ⟨s, C, R', rfl, _, hR', hS'⟩
    obtain ⟨C', h1, h2⟩ := fin (hR'.right C) hS'
    exact ⟨s, _, rfl, R', C', rfl, h1, h2⟩
  have h4 : ¬ Int.tmod x.kind 13 = 4 := by simpa using h4
  refine brc_intro (fun h5 => ?_) (fun h5 => ?_)
  · have h5 : Int.tmod x.kind 13 = 5 := by simpa using h5
    have e : actM M x = M.sync x.name := by unfold actM; rw [if_neg h0, if_neg h4, if_pos h5]
    rw [e]
    refine ⟨x.name, ln, (k97 hS2 hR hI2 hg hm (by omega) x.name).mono ?_⟩
    rintro _ w2 ⟨R', rfl, hR', hS'⟩
    obtain ⟨C', h1, h2⟩ := fin (C := []) hR' hS'
    exact ⟨_, rfl, R', C', rfl, h1, h2⟩
  have h5 : ¬ Int.tmod x.kind 13 = 5 := by simpa using h5
  refine brc_intro (fun h6 => ?_) (fun h6 => ?_)
  · have h6 : Int.tmod x.kind 13 = 6 := by simpa using h6
    have e : actM M x = M.rename x.name x.to := by unfold actM; rw [if_neg h0, if_neg h4, if_neg h5, if_pos h6]
    rw [e]
    refine ⟨x.name, ln, x.to, hS1.load (b := a) (o := 2) List.mem_cons_self rfl (by kernel_rfl), (k98 hS2 hR hI2 hg hm (by omega) x.name x.to).mono ?_⟩
    rintro _ w2 ⟨R', C, rfl, hR', hS'⟩
    obtain ⟨C', h1, h2⟩ := fin hR' hS'
    exact ⟨_, rfl, R', C', rfl, h1, h2⟩
  have h6 : ¬ Int.tmod x.kind 13 = 6 := by simpa using h6
  refine brc_intro (fun h7 => ?_) (fun h7 => ?_)
  · have h7 : Int.tmod x.kind 13 = 7 := by simpa using h7
    have e : actM M x = M.remove x.name := by unfold actM; rw [if_neg h0, if_neg h4, if_neg h5, if_neg h6, if_pos h7]
    rw [e]
    refine ⟨x.name, ln, (k99 hS2 hR hI2 hg hm (by omega) x.name).mono ?_⟩
    rintro _ w2 ⟨R', C, rfl, hR', hS'⟩
    obtain ⟨C', h1, h2⟩ := fin hR' hS'
    exact ⟨_, rfl, R', C', rfl, h1, h2⟩
  have h7 : ¬ Int.tmod x.kind 13 = 7 := by simpa using h7
  refine brc_intro (fun h8 => ?_) (fun h8 => ?_)
  · have h8 : Int.tmod x.kind 13 = 8 := by simpa using h8
    have e : actM M x = M.syncNames := by unfold actM; rw [if_neg h0, if_neg h4, if_neg h5, if_neg h6, if_neg h7, if_pos h8]
    rw [e]
    refine (k100 hS2 hR hI2 hg hm (by omega)).mono ?_
    rintro _ w2 ⟨R', C, rfl, hR', hS'⟩
    obtain ⟨C', h1, h2⟩ := fin hR' hS'
    exact ⟨_, rfl, R', C', rfl, h1, h2⟩
  have h8 : ¬ Int.tmod x.kind 13 = 8 := by simpa using h8
  refine brc_intro (fun h9 => ?_) (fun h9 => ?_)
  · have h9 : Int.tmod x.kind 13 = 9 := by simpa using h9
    have e : actM M x = (M.names.1, M.names.2.2) := by unfold actM; rw [if_neg h0, if_neg h4, if_neg h5, if_neg h6, if_neg h7, if_neg h8, if_pos h9]
    rw [e]
    refine (k101 hS2 hR hI2 hg hm (by omega)).mono ?_
    rintro _ w2 ⟨s, C, R', rfl, _, hR', hS'⟩
    obtain ⟨C', h1, h2⟩ := fin (hR'.right C) hS'
    exact ⟨s, _, rfl, R', C', rfl, h1, h2⟩
  have h9 : ¬ Int.tmod x.kind 13 = 9 := by simpa using h9
  refine brc_intro (fun h10 => ?_) (fun h10 => ?_)
  · have h10 : Int.tmod x.kind 13 = 10 := by simpa using h10
    have e : actM M x = M.doom x.n := by unfold actM; rw [if_neg h0, if_neg h4, if_neg h5, if_neg h6, if_neg h7, if_neg h8, if_neg h9, if_pos h10]
    rw [e]
    refine ⟨x.n, hS1.load (b := a) (o := 4) List.mem_cons_self rfl (by kernel_rfl), (k59 hS2 hR x.n).mono ?_⟩
    rintro _ w2 ⟨R', rfl, hR', hS'⟩
    obtain ⟨C', h1, h2⟩ := fin (C := []) hR' hS'
    exact ⟨_, rfl, R', C', rfl, h1, h2⟩
  have h10 : ¬ Int.tmod x.kind 13 = 10 := by simpa using h10
  refine brc_intro (fun h11 => ?_) (fun h11 => ?_)
  · have h11 : Int.tmod x.kind 13 = 11 := by simpa using h11
    have e : actM M x = (0, M.crash x.wn x.wb) := by unfold actM; rw [if_neg h0, if_neg h4, if_neg h5, if_neg h6, if_neg h7, if_neg h8, if_neg h9, if_neg h10, if_pos h11]
    rw [e]
    refine ⟨x.wn, x.swb, hS1.loadS (b := a) (o := 5) (n := 2) List.mem_cons_self (by kernel_rfl) (by kernel_rfl) rfl (by simp [encA]), (k46 hS2 hR hI2 hg hm (by omega) (by omega) x.wn (hx.wb.mono fun c hc => List.mem_cons_of_mem _ hc)).mono ?_⟩
    rintro _ w2 ⟨R', C, rfl, hR', hS'⟩
    obtain ⟨C', h1, h2⟩ := fin hR' hS'
    exact ⟨_, rfl, R', C', rfl, h1, h2⟩
  have h11 : ¬ Int.tmod x.kind 13 = 11 := by simpa using h11
  refine brc_intro (fun h12 => ?_) (fun h12 => ?_)
  · have h12 : Int.tmod x.kind 13 = 12 := by simpa using h12
    have e : actM M x = M.grow x.n := by unfold actM; rw [if_neg h0, if_neg h4, if_neg h5, if_neg h6, if_neg h7, if_neg h8, if_neg h9, if_neg h10, if_neg h11, if_pos h12]
    rw [e]
    refine ⟨x.n, hS1.load (b := a) (o := 4) List.mem_cons_self rfl (by kernel_rfl), (k102 hS2 hR x.n).mono ?_⟩
    rintro _ w2 ⟨R', rfl, hR', hS'⟩
    obtain ⟨C', h1, h2⟩ := fin (C := []) hR' hS'
    exact ⟨_, rfl, R', C', rfl, h1, h2⟩
  have h12 : ¬ Int.tmod x.kind 13 = 12 := by simpa using h12
  have e : actM M x = M.append x.name x.b := by unfold actM; rw [if_neg h0, if_neg h4, if_neg h5, if_neg h6, if_neg h7, if_neg h8, if_neg h9, if_neg h10, if_neg h11, if_neg h12]
  rw [e]
  refine ⟨x.name, ln, x.sb, hS1.load (b := a) (o := 3) List.mem_cons_self rfl (by kernel_rfl), (k103 hS2 hR hI2 hg hm (by omega) (by omega) x.name (hx.b.mono fun c hc => List.mem_cons_of_mem _ hc) (by omega)).mono ?_⟩
  rintro _ w2 ⟨R', C, rfl, hR', hS'⟩
  obtain ⟨C', h1, h2⟩ := fin hR' hS'
  exact ⟨_, rfl, R', C', rfl, h1, h2⟩

end Go.Proofs.Ytonjaaljnjjjcaa

/- What the arguments are: structs, numbers, acts. Conditions: as each lemma says. -/
set_option linter.unusedVariables false
set_option linter.unusedSimpArgs false
namespace Go.Proofs.Ytonjaaljnjjjcaa
open Go Go.RowKit

noncomputable def flds (t : TypeId) : Array Field := match Pr.underlying t with
  | some (.struct fs) => fs
  | _ => #[]

section
variable {H : Type} {enc : TypeId × Value → H} {w : World} {fuel : Nat} {x : DataW H × List MemPlace}

/-- A field of a struct among the arguments. -/
theorem arg_field {t ty : TypeId} {i off sz : Nat} {cs : List Value} (hu : Pr.underlying t = some (.struct (flds t))) (hf : ((flds t)[i]?.map fun f => (f.type, f.offset)) = some (ty, off)) (hc : Pr.cellsOf ty = sz) (h : trod0 enc w fuel t cs = some x) :
    cs.length = Pr.cellsOf t ∧ ∃ n y, trod0 enc w n ty ((cs.drop off).take sz) = some y := by
  obtain ⟨xs, n, _, _, hl, hlen, hel⟩ := DataW.trod_struct hu h
  cases hfi : (flds t)[i]? with
  | none => rw [hfi] at hf; cases hf
  | some f =>
    rw [hfi] at hf
    simp only [Option.map_some, Option.some.injEq, Prod.mk.injEq] at hf
    have hi := (Array.getElem?_eq_some_iff.1 hfi).1
    have := hel i f hfi
    rw [hf.1, hf.2, hc, List.getElem?_eq_getElem (by omega)] at this
    exact ⟨hl, n, _, this⟩

theorem u3' : Pr.underlying 3 = some (.int .i64) := by kernel_rfl
theorem c3 : Pr.cellsOf 3 = 1 := by kernel_rfl
theorem u61 : Pr.underlying 61 = some (.slice 3) := by kernel_rfl

theorem arg_int {v : Value} (h : trod0 enc w fuel 3 [v] = some x) : ∃ n : Int, v = .int .i64 n ∧ -9223372036854775808 ≤ n ∧ n ≤ 9223372036854775807 := by
  obtain ⟨n, hn, _, hw⟩ := DataW.trod_int u3' h
  injection hn with hn
  simp only [Lit.wf, Bool.and_eq_true, decide_eq_true_eq] at hw
  exact ⟨n, hn, hw⟩

/-- Numbers among the arguments. -/
theorem arg_ints {v : Value} (h : trod0 enc w fuel 61 [v] = some x) : ∃ (s : SV) (l : List Int), v = .slice s.a s.len s.cap ∧ RdS (whole w) 1 s (l.map intV) ∧ l.length ≤ maxLen := by
  obtain ⟨s, xs, rfl, hr, hm, hel⟩ := arg_slice u61 c3 (by decide) h
  have hlen := hr.len1
  obtain ⟨l, h1, h2⟩ := list_of (R := fun v (b : Int) => v = intV b) xs fun i hi => by
    obtain ⟨n, y, hy⟩ := hel i (by omega)
    have e : (xs.drop (i * 1)).take 1 = [xs[i]] := by
      rw [Nat.mul_one, List.drop_eq_getElem_cons hi]
      rfl
    rw [e] at hy
    obtain ⟨m, hm, _⟩ := arg_int hy
    exact ⟨m, hm⟩
  have : xs = l.map intV := by
    apply List.ext_getElem
    · simp [h1]
    · intro i hi hi'
      rw [List.getElem_map]
      exact h2 i hi (by omega)
  subst this
  refine ⟨s, l, rfl, hr, ?_⟩
  rw [List.length_map] at hlen
  omega

theorem u63 : Pr.underlying 63 = some (.struct (flds 63)) := by kernel_rfl
theorem c63 : Pr.cellsOf 63 = 2 := by kernel_rfl
theorem u68 : Pr.underlying 68 = some (.struct (flds 68)) := by kernel_rfl
theorem c68 : Pr.cellsOf 68 = 7 := by kernel_rfl
theorem u60 : Pr.underlying 60 = some (.slice 68) := by kernel_rfl
theorem c61 : Pr.cellsOf 61 = 1 := by kernel_rfl
theorem c9 : Pr.cellsOf 9 = 1 := by kernel_rfl

theorem list2 {cs : List Value} (h : cs.length = 2) : ∃ a b, cs = [a, b] := by
  match cs, h with
  | [a, b], _ => exact ⟨a, b, rfl⟩
theorem list7 {cs : List Value} (h : cs.length = 7) : ∃ a b c d e f g, cs = [a, b, c, d, e, f, g] := by
  match cs, h with
  | [a, b, c, d, e, f, g], _ => exact ⟨a, b, c, d, e, f, g, rfl⟩

/-- A wreck among the arguments. -/
theorem arg_wreck {cs : List Value} (h : trod0 enc w fuel 63 cs = some x) : ∃ (n : Int) (s : SV) (l : List Int), cs = [.int .i64 n, slV s] ∧ RdS (whole w) 1 s (l.map intV) := by
  obtain ⟨hl, n0, y0, h0⟩ := arg_field (i := 0) (ty := 3) (off := 0) u63 (by kernel_rfl) c3 h
  obtain ⟨_, n1, y1, h1⟩ := arg_field (i := 1) (ty := 61) (off := 1) u63 (by kernel_rfl) c61 h
  rw [c63] at hl
  obtain ⟨a, b, rfl⟩ := list2 hl
  obtain ⟨n, rfl, _⟩ := arg_int h0
  obtain ⟨s, l, rfl, hr, _⟩ := arg_ints h1
  exact ⟨n, s, l, rfl, hr⟩

theorem arg_str {v : Value} (h : trod0 enc w fuel 9 [v] = some x) : ∃ s : ByteArray, v = .string s ∧ s.size ≤ maxLen := by
  obtain ⟨s, hs, _, hm⟩ := DataW.trod_string u9 h
  injection hs with hs
  exact ⟨s, hs, hm⟩

/-- An act among the arguments. -/
theorem arg_act {cs : List Value} (h : trod0 enc w fuel 68 cs = some x) : ∃ a : Act, cs = encA a ∧ ActOk (whole w) a := by
  obtain ⟨hl, n0, y0, h0⟩ := arg_field (i := 0) (ty := 5) (off := 0) u68 (by kernel_rfl) c5 h
  obtain ⟨_, n1, y1, h1⟩ := arg_field (i := 1) (ty := 9) (off := 1) u68 (by kernel_rfl) c9 h
  obtain ⟨_, n2, y2, h2⟩ := arg_field (i := 2) (ty := 9) (off := 2) u68 (by kernel_rfl) c9 h
  obtain ⟨_, n3, y3, h3⟩ := arg_field (i := 3) (ty := 26) (off := 3) u68 (by kernel_rfl) c26 h
  obtain ⟨_, n4, y4, h4⟩ := arg_field (i := 4) (ty := 3) (off := 4) u68 (by kernel_rfl) c3 h
  obtain ⟨_, n5, y5, h5⟩ := arg_field (i := 5) (ty := 63) (off := 5) u68 (by kernel_rfl) c63 h
  rw [c68] at hl
  obtain ⟨a, b, c, d, e, f, g, rfl⟩ := list7 hl
  obtain ⟨k, hk, _, _⟩ := DataW.trod_int u5 h0
  have hka : a = .int .u8 k := by injection hk
  obtain ⟨s1, rfl, _⟩ := arg_str h1
  obtain ⟨s2, rfl, _⟩ := arg_str h2
  obtain ⟨sb, lb, rfl, hb, _⟩ := arg_bytes h3
  obtain ⟨n, rfl, _, hn⟩ := arg_int h4
  obtain ⟨wn, sw, lw, hcs, hw⟩ := arg_wreck h5
  have hcs : [f, g] = [.int .i64 wn, slV sw] := hcs
  have hf : f = .int .i64 wn := by injection hcs
  have hg : g = slV sw := by
    injection hcs with _ hcs
    injection hcs
  rw [hka, hf, hg]
  exact ⟨⟨k, s1, s2, sb, lb, n, wn, sw, lw⟩, rfl, hb, hw, hn⟩

/-- Elements of a slice among the arguments, as they are encoded. -/
theorem arg_enc {α : Type} {enc' : α → List Value} {sz : Nat} {P : α → Prop} (hok : EncOk enc' sz) {s : SV} {xs : List Value} (hr : RdS (whole w) sz s xs) (hel : ∀ i, i < s.len → ∃ a : α, (xs.drop (i * sz)).take sz = enc' a ∧ P a) :
    ∃ l : List α, xs = l.flatMap enc' ∧ l.length = s.len ∧ ∀ a ∈ l, P a := by
  have hlen := hr.len
  obtain ⟨l, h1, h2⟩ := list_of (R := fun (i : Nat) (a : α) => (xs.drop (i * sz)).take sz = enc' a ∧ P a) (List.range s.len) fun i hi => by
    rw [List.length_range] at hi
    obtain ⟨a, ha⟩ := hel i hi
    exact ⟨a, by simpa using ha⟩
  rw [List.length_range] at h1
  refine ⟨l, ?_, h1, fun a ha => ?_⟩
  · apply List.ext_getElem?
    intro j
    have hfl := hok.flat l
    by_cases hj : j < s.len * sz
    · have hi : j / sz < s.len := (Nat.div_lt_iff_lt_mul hok.pos).2 hj
      have hm := Nat.mod_lt j hok.pos
      have h3 := (h2 (j / sz) (by simpa using hi) (by omega)).1
      rw [List.getElem_range] at h3
      have hjl : j % sz < (enc' l[j / sz]).length := by rw [hok.len]; exact hm
      have h4 := hok.cell (xs := l) (i := j / sz) (j := j % sz) (x := l[j / sz]) (v := (enc' l[j / sz])[j % sz]) (by simp [h1, hi]) (by simp [hjl])
      rw [Nat.mul_comm, Nat.div_add_mod] at h4
      rw [h4, ← List.getElem?_eq_getElem hjl, ← h3, List.getElem?_take, if_pos hm, List.getElem?_drop, Nat.mul_comm, Nat.div_add_mod]
    · rw [List.getElem?_eq_none (by omega), List.getElem?_eq_none (by rw [hfl, h1]; omega)]
  · obtain ⟨i, hi, rfl⟩ := List.getElem_of_mem ha
    exact (h2 i (by simp; omega) hi).2

/-- Acts among the arguments. -/
theorem arg_acts {v : Value} (h : trod0 enc w fuel 60 [v] = some x) : ∃ (s : SV) (l : List Act), v = .slice s.a s.len s.cap ∧ RdS (whole w) 7 s (l.flatMap encA) ∧ l.length ≤ maxLen ∧ ∀ a ∈ l, ActOk (whole w) a := by
  obtain ⟨s, xs, rfl, hr, hm, hel⟩ := arg_slice u60 c68 (by decide) h
  obtain ⟨l, rfl, h1, h2⟩ := arg_enc (P := ActOk (whole w)) encA_ok hr fun i hi => by
    obtain ⟨n, y, hy⟩ := hel i hi
    exact arg_act hy
  exact ⟨s, l, rfl, hr, by omega, h2⟩
end

end Go.Proofs.Ytonjaaljnjjjcaa

/- DiskPlays: the walk. Conditions: as each lemma says. -/
set_option linter.unusedVariables false
set_option linter.unusedSimpArgs false
namespace Go.Proofs.Ytonjaaljnjjjcaa
open Go Go.RowKit

theorem u26' : Pr.underlying 26 = some (.slice 5) := by kernel_rfl

/-- texts, of two alike. -/
theorem k107 {E w : World} {L : List Chunk} {s t : SV} {ks : List ByteArray} (hS : Sep E w L) (hs : RdS L 1 s (ks.flatMap encK)) (ht : RdS L 1 t (ks.flatMap encK)) (hn : ks.length ≤ 1000000000000) :
    Calls Pr 107 #[.slice s.a s.len s.cap, .slice t.a t.len t.cap] w fun e w' => e = .returned (.bool true) ∧ Sep E w' L := by
  refine call107 ?_
  unfold ir107
  have h1 := RdG.size encK_ok hs
  have h2 := RdG.size encK_ok ht
  refine brc_false (by rw [h1, h2]; simp) ?_
  refine ⟨fun n σ w1 => ∃ j : Nat, j ≤ ks.length ∧ n = ks.length - j ∧ σ = ((j : Int), ()) ∧ Sep E w1 L, ks.length, ⟨0, Nat.zero_le _, rfl, rfl, hS⟩, ?_⟩
  rintro n σ w1 ⟨j, hj, rfl, rfl, hS1⟩ _
  dsimp only
  refine brc_intro (fun h => ?_) (fun h => ?_)
  · have h : j < ks.length := by simp at h; omega
    have hx : ks[j]? = some ks[j] := List.getElem?_eq_getElem h
    generalize ks[j] = k at hx
    obtain ⟨a, ha, _, hat⟩ := RdG.at_ encK_ok hs hx
    obtain ⟨a', ha', _, hat'⟩ := RdG.at_ encK_ok ht hx
    have l1 : ∀ w, Sep E w L → At Pr w (loadVar 9 (a.add (j * 1))) (.string k) := fun w hw => by
      have := hat (j := 0) (v := .string k) (t := 9) rfl (by kernel_rfl) hw (fun c hc => hc)
      rwa [addA, Nat.add_zero] at this
    have l2 : ∀ w, Sep E w L → At Pr w (loadVar 9 (a'.add (j * 1))) (.string k) := fun w hw => by
      have := hat' (j := 0) (v := .string k) (t := 9) rfl (by kernel_rfl) hw (fun c hc => hc)
      rwa [addA, Nat.add_zero] at this
    refine ⟨fun w => Sep E w L, hS1.drew, ⟨by omega, by omega⟩, ?_⟩
    rw [ha]
    refine ⟨k, l1, ⟨by omega, by omega⟩, ?_⟩
    rw [ha']
    refine ⟨k, l2, brc_false (by rw [ba_eq_toList]; simp) ⟨ks.length - (j + 1), by omega, j + 1, by omega, rfl, by rw [w64 (by omega) (by omega)]; rfl, hS1.drew⟩⟩
  · exact ⟨rfl, hS1⟩

/-- few. -/
theorem k37 {E w : World} {L I : List Chunk} {s : SV} {l : List Act} (hS : Sep E w L) (hs : RdS I 7 s (l.flatMap encA)) (hI : ∀ c ∈ I, c ∈ L) (hn : l.length ≤ 9223372036854775807) (hl : ∀ x ∈ l, ActOk I x) :
    Calls Pr 37 #[.slice s.a s.len s.cap] w fun e w' => ∃ (s' : SV) (l' : List Act) (C G : List Chunk), e = .returned (.slice s'.a s'.len s'.cap) ∧ Own 68 7 s' (l'.flatMap encA) C ∧ l'.length ≤ 100 ∧ (∀ x ∈ l', ActOk I x ∧ x.b.length ≤ 50) ∧ Sep E w' (C ++ (G ++ L)) := by
  refine call37 ?_
  unfold ir37
  have hsz := RdG.size encA_ok hs
  refine ⟨fun n σ w1 => ∃ (j : Nat) (l' : List Act) (C G : List Chunk), j ≤ l.length ∧ n = l.length - j ∧ σ.1 = (j : Int) ∧ Own 68 7 σ.2.1 (l'.flatMap encA) C ∧ l'.length ≤ 100 ∧ l'.length ≤ j ∧ (∀ x ∈ l', ActOk I x ∧ x.b.length ≤ 50) ∧ Sep E w1 (C ++ (G ++ L)), l.length, ⟨0, [], [], [], Nat.zero_le _, rfl, rfl, Own.nil _ _, Nat.zero_le _, Nat.zero_le _, (fun x hx => by cases hx), hS⟩, ?_⟩
  rintro n ⟨jj, s', u⟩ w1 ⟨j, l', C, G, hj, rfl, hjj, ho, hl1, hl2, hl3, hS1⟩ _
  dsimp only at hjj ho ⊢
  subst hjj
  refine brc_intro (fun h => ?_) (fun h => ?_)
  · have h : j < l.length := by simp at h; omega
    have hx : l[j]? = some l[j] := List.getElem?_eq_getElem h
    have hxm : l[j] ∈ l := List.getElem_mem h
    generalize l[j] = x at hx hxm
    have hxo := hl x hxm
    obtain ⟨a, ha, hat0, _⟩ := RdG.at_ encA_ok hs hx
    rw [ha]
    refine ⟨⟨by omega, by omega⟩, x.kind, x.name, x.to, x.sb, x.n, x.wn, x.swb, hat0 (t := 68) (by kernel_rfl) (by kernel_rfl) hS1 (fun c hc => by simp [hI c hc]), ?_⟩
    obtain ⟨q, w2, h2, hS2⟩ := hS1.alloc (t := 68) z68
    refine ⟨_, w2, h2, ?_⟩
    obtain ⟨w3, h3, hS3⟩ := Sep.store (cs := [.int .u8 0, .string ByteArray.empty, .string ByteArray.empty, .slice none 0 0, .int .i64 0, .int .i64 0, .slice none 0 0]) (o := 0) (n := 7) (v := .agg (encA x).toArray) (t := 68) hS2 (by kernel_rfl) rfl (by simp [encA, Value.cells]) (by simp [encA, Value.cells, Value.oneCell'])
    let X : Chunk := (q, .cells (encA x).toArray 68 (0, 0))
    have hS3 : Sep E w3 (X :: (C ++ (G ++ L))) := hS3
    refine ⟨w3, h3, ?_⟩
    have skip : ∃ n', n' < l.length - j ∧ ∃ (j' : Nat) (l'' : List Act) (C G : List Chunk), j' ≤ l.length ∧ n' = l.length - j' ∧ IntKind.wrap .i64 ((j : Int) + 1) = (j' : Int) ∧ Own 68 7 s' (l''.flatMap encA) C ∧ l''.length ≤ 100 ∧ l''.length ≤ j' ∧ (∀ x ∈ l'', ActOk I x ∧ x.b.length ≤ 50) ∧ Sep E w3 (C ++ (G ++ L)) :=
      ⟨l.length - (j + 1), by omega, j + 1, l', C, X :: G, by omega, rfl, by rw [w64 (by omega) (by omega)]; rfl, ho, hl1, by omega, hl3, hS3.weak (by intro f; simp only [ms_append, ms_cons, ms_nil]; omega)⟩
    refine brc_intro (fun h4 => ?_) (fun _ => skip)
    have h4 : (j : Int) < 100 := by simpa using h4
    refine ⟨x.sb, hS3.load (b := q) (o := 3) List.mem_cons_self rfl (by kernel_rfl), brc_intro (fun h5 => ?_) (fun _ => skip)⟩
    have h5 : ((x.sb.len : Nat) : Int) ≤ 50 := by simpa using h5
    have hbl := hxo.b.size
    refine ⟨x.name, hS3.load (b := q) (o := 1) List.mem_cons_self rfl (by kernel_rfl), brc_intro (fun _ => ?_) (fun _ => skip)⟩
    refine ⟨x.to, hS3.load (b := q) (o := 2) List.mem_cons_self rfl (by kernel_rfl), brc_intro (fun _ => ?_) (fun _ => skip)⟩
    refine ⟨x.swb, by rw [addA]; exact hS3.load (b := q) (o := 6) List.mem_cons_self rfl (by kernel_rfl), brc_intro (fun _ => ?_) (fun _ => skip)⟩
    refine ⟨x.kind, x.name, x.to, x.sb, x.n, x.wn, x.swb, hS3.loadS (b := q) (o := 0) (n := 7) List.mem_cons_self (by kernel_rfl) (by kernel_rfl) rfl (by simp [encA]), ?_⟩
    have hS3' : Sep E w3 (C ++ (X :: (G ++ L))) := hS3.weak (by intro f; simp only [ms_append, ms_cons, ms_nil]; omega)
    obtain ⟨s4, w4, h6, s5, w5, C', G', h7, ho7, hS7⟩ := Sep.pushG encA_ok ti60 (x := x) (v := .agg (encA x).toArray) (ty := 60) hS3' ho (by kernel_rfl) (by omega) (by unfold maxLen; omega)
    refine ⟨s4, w4, h6, s5, w5, h7, l.length - (j + 1), by omega, j + 1, l' ++ [x], C', G' ++ (X :: G), by omega, rfl, by rw [w64 (by omega) (by omega)]; rfl, ho7, by simp; omega, by simp; omega, fun y hy => ?_, hS7.weak (by intro f; simp only [ms_append, ms_cons, ms_nil]; omega)⟩
    rcases List.mem_append.1 hy with hy | hy
    · exact hl3 y hy
    · rw [List.mem_singleton] at hy
      subst hy
      exact ⟨hxo, by omega⟩
  · exact ⟨s', l', C, G, rfl, ho, hl1, hl3, hS1⟩

/-- same. -/
theorem k43 {E w : World} {L I : List Chunk} {M : MDisk} {D : DS} {R : RS} {d r n b : Nat} (hS : Sep E w (D.chunks M d ++ (R.chunks M r ++ L))) (hD : DRep D M I) (hR : RRep R M I) (hI : ∀ c ∈ I, c ∈ L) (hg : M.Good) (hm : M.Small n b) (hn : n ≤ 1000) (hb : b ≤ 100000) :
    Calls Pr 43 #[.pointer (some ⟨d, 0, none⟩), .pointer (some ⟨r, 0, none⟩)] w fun e w' => e = .returned (.bool true) ∧ Sep E w' L := by
  refine call43 ?_
  unfold ir43
  have hnl := small_now hg hm
  refine (k50 hm.left hS hD (by omega)).mono ?_
  rintro _ w1 ⟨s1, C1, rfl, hr1, hD1, hS1⟩
  refine ⟨s1, _, rfl, ?_⟩
  have hS1' : Sep E w1 (R.chunks M r ++ (D.chunks M.names.2.2 d ++ (C1 ++ L))) := hS1.weak (by intro f; simp only [ms_append, ms_cons, ms_nil]; omega)
  refine (k101 hS1' hR (fun c hc => by simp [hI c hc]) hg hm (by omega)).mono ?_
  rintro _ w2 ⟨s2, C2, R2, rfl, hr2, hR2, hS2⟩
  refine ⟨s2, _, rfl, ?_⟩
  have hg1 := hg.names
  have hm1 := hm.names'
  have hkl : M.names.2.1.length ≤ 1000000000000 := by
    unfold MDisk.names
    split
    · exact Nat.zero_le _
    · have := small_now hg.ready hm.ready
      rw [List.length_map]
      omega
  generalize hM1 : M.names.2.2 = M1 at *
  generalize M.names.2.1 = ks at *
  refine (k107 hS2 (hr1.mono fun c hc => by simp [hc]) (hr2.mono fun c hc => by simp [hc]) hkl).mono ?_
  rintro _ w3 ⟨rfl, hS3⟩
  refine ⟨_, rfl, brc_false rfl (brc_false (by simp) ?_)⟩
  have hS3' : Sep E w3 (D.chunks M1 d ++ (R2.chunks M1 r ++ (C2 ++ (C1 ++ L)))) := hS3.weak (by intro f; simp only [ms_append, ms_cons, ms_nil]; omega)
  have hT := small_tot hm1 hn hb
  have hcc := small_ch hm1
  refine (k40 hS3' hD1 (by omega) (by omega)).mono ?_
  rintro _ w4 ⟨C4, rfl, hS4⟩
  refine ⟨_, rfl, ?_⟩
  have hS4' : Sep E w4 (R2.chunks M1 r ++ (D.chunks M1 d ++ (C2 ++ (C1 ++ (C4 ++ L))))) := hS4.weak (by intro f; simp only [ms_append, ms_cons, ms_nil]; omega)
  refine (k41 hS4' hR2 (fun c hc => by simp [hI c hc]) hg1 hm1 (by omega) (by omega)).mono ?_
  rintro _ w5 ⟨C5, rfl, hS5⟩
  refine ⟨_, rfl, brc_false (by simp) ?_⟩
  have hks := RdG.size encK_ok hr2
  have hS5' : Sep E w5 (D.chunks M1 d ++ (R2.chunks M1 r ++ (C2 ++ ((C5 ++ (C1 ++ C4)) ++ L)))) := hS5.weak (by intro f; simp only [ms_append, ms_cons, ms_nil]; omega)
  clear hS hS1 hS1' hS2 hS3 hS3' hS4 hS4' hS5
  refine ⟨fun k σ w6 => ∃ (j : Nat) (M' : MDisk) (R' : RS) (G : List Chunk), j ≤ ks.length ∧ k = ks.length - j ∧ σ = ((j : Int), ()) ∧ M'.Good ∧ M'.Small n b ∧ DRep D M' I ∧ RRep R' M' I ∧ Sep E w6 (D.chunks M' d ++ (R'.chunks M' r ++ (C2 ++ (G ++ L)))), ks.length, ⟨0, M1, R2, _, Nat.zero_le _, rfl, rfl, hg1, hm1, hD1, hR2, hS5'⟩, ?_⟩
  clear hM1 hS5' hg1 hm1 hD1 hR2 hT hcc
  rintro k σ w6 ⟨j, M', R', G, hj, rfl, rfl, hg', hm', hD', hR', hS6⟩ _
  dsimp only
  refine brc_intro (fun h => ?_) (fun h => ?_)
  · have h : j < ks.length := by simp at h; omega
    have hx : ks[j]? = some ks[j] := List.getElem?_eq_getElem h
    generalize ks[j] = x at hx
    obtain ⟨a, ha, _, hat⟩ := RdG.at_ encK_ok hr2 hx
    rw [ha]
    have l1 : At Pr w6 (loadVar 9 (a.add (j * 1))) (.string x) := by
      have := hat (j := 0) (v := .string x) (t := 9) rfl (by kernel_rfl) hS6 (fun c hc => by simp [hc])
      rwa [addA, Nat.add_zero] at this
    refine ⟨⟨by omega, by omega⟩, x, l1, ?_⟩
    refine (k28 hm'.left hS6 hD' (fun c hc => by simp [hI c hc]) x (fun f hf => by have := hm'.each f hf; omega)).mono ?_
    rintro _ w7 ⟨s3, C7, rfl, hr3, _, hD7, hS7⟩
    refine ⟨s3, _, rfl, ?_⟩
    have hS7' : Sep E w7 (R'.chunks M' r ++ (D.chunks (M'.read x).2.2 d ++ (C7 ++ (C2 ++ (G ++ L))))) := hS7.weak (by intro f; simp only [ms_append, ms_cons, ms_nil]; omega)
    refine (k64 hS7' hR' (fun c hc => by simp [hI c hc]) hg' hm' (by omega) (by omega) x).mono ?_
    rintro _ w8 ⟨s4, C8, R8, rfl, hr4, hR8, hS8⟩
    refine ⟨s4, _, rfl, _, hS8.toStr hr3 (fun c hc => by simp [hc]) u26' u9, _, hS8.toStr hr4 (fun c hc => by simp [hc]) u26' u9, brc_false (by rw [ba_eq_toList]; simp) (brc_false (by simp) ?_)⟩
    exact ⟨ks.length - (j + 1), by omega, j + 1, (M'.read x).2.2, R8, C8 ++ (C7 ++ G), by omega, rfl, by rw [w64 (by omega) (by omega)]; rfl, hg'.read x, hm'.read x, hD7, hR8, hS8.weak (by intro f; simp only [ms_append, ms_cons, ms_nil]; omega)⟩
  · exact ⟨rfl, hS6.weak (by intro f; simp only [ms_append, ms_cons, ms_nil]; omega)⟩

end Go.Proofs.Ytonjaaljnjjjcaa

/- DiskPlays: the document's examples, and the whole. Conditions: as each lemma says. -/
set_option linter.unusedVariables false
set_option linter.unusedSimpArgs false
namespace Go.Proofs.Ytonjaaljnjjjcaa
open Go Go.RowKit

theorem Sep.zeros {E w : World} {L : List Chunk} (hS : Sep E w L) (n : Nat) (hn : n ≤ 1000000) :
    ∃ (s : SV) (w' : World) (C : List Chunk), Sem.run Pr (Instr.makeSlice 26 (.int .i64 (n : Int)) (.int .i64 (n : Int))) w = .ok (.slice s.a s.len s.cap) w' ∧ RdB C s (List.replicate n 0) ∧ Sep E w' (C ++ L) := by
  obtain ⟨g, w1, h1, hS1⟩ := hS.makeSlice tiB (n := n) (by omega) (by omega)
  rw [zerosL_u8] at hS1
  refine ⟨⟨some ⟨g, 0, none⟩, n, n⟩, w1, [_], h1, ?_, hS1⟩
  have := (Own.new (T := 5) (sz := 1) (g := g) (n := n) (vs := List.replicate n (.int .u8 0)) (by simp) (by unfold maxLen; omega)).rds
  have e : (List.replicate n (0 : UInt8)).map byteV = List.replicate n (.int .u8 0) := by rw [List.map_replicate]; rfl
  show RdS _ 1 _ ((List.replicate n (0 : UInt8)).map byteV)
  rw [e]
  exact this

def aN : ByteArray := ⟨#[97]⟩
def shM1 : MDisk := ((MDisk.new 9).create aN).2
def shM2 : MDisk := (shM1.append aN (List.replicate 5 0)).2
def shM3 : MDisk := shM2.crash 0 []
def shM4 : MDisk := shM3.names.2.2
def shM5 : MDisk := (shM4.create aN).2
def shM6 : MDisk := shM5.syncNames.2
def shM7 : MDisk := (shM6.append aN (List.replicate 5 0)).2
def shM8 : MDisk := shM7.crash 0 [2]
def shM9 : MDisk := (shM8.read aN).2.2
theorem sh_1 : ((MDisk.new 9).create aN).1 = 0 := by kernel_rfl
theorem sh_2 : (shM1.append aN (List.replicate 5 0)).1 = 0 := by kernel_rfl
theorem sh_4 : shM3.names.1 = 0 := by kernel_rfl
theorem sh_4' : shM3.names.2.1 = [] := by kernel_rfl
theorem sh_5 : (shM4.create aN).1 = 0 := by kernel_rfl
theorem sh_6 : shM5.syncNames.1 = 0 := by kernel_rfl
theorem sh_7 : (shM6.append aN (List.replicate 5 0)).1 = 0 := by kernel_rfl
theorem sh_9 : (shM8.read aN).1 = 0 := by kernel_rfl
theorem sh_9' : (shM8.read aN).2.1.length = 2 := by kernel_rfl
theorem sh_10 : (shM9.append aN (List.replicate 8 0)).1 = 41 := by kernel_rfl

theorem shG2 : shM2.Good := ((MDisk.good_new 9).create aN).append aN _
theorem shS2 : shM2.Small 1 5 := ((MDisk.small_new 9).create aN).append aN _
theorem shG3 : shM3.Good := shG2.crash 0 []
theorem shS3 : shM3.Small 1 5 := shS2.crash 0 []
theorem shG7 : shM7.Good := ((shG3.names.create aN).syncNames).append aN _
theorem shS7 : shM7.Small 2 10 := ((shS3.names'.create aN).syncNames (shG3.names.create aN)).append aN _
theorem shS8 : shM8.Small 2 10 := shS7.crash 0 [2]

theorem ti61 : TI 61 3 1 8 (.int .i64 0) := ⟨by kernel_rfl, by kernel_rfl, rfl, by decide⟩
theorem encI_ok : EncOk (fun n : Int => [intV n]) 1 := ⟨fun _ => rfl, fun x u hu => by simp at hu; subst hu; rfl, by decide⟩

/-- shown. -/
theorem k35 {E w : World} {L : List Chunk} (hS : Sep E w L) : Calls Pr 35 #[] w fun e w' => e = .returned (.bool true) ∧ ∃ C, Sep E w' (C ++ L) := by
  refine call35 ?_
  unfold ir35
  refine (k25 hS 9).mono ?_
  rintro _ w1 ⟨d, D, rfl, hD, hS1⟩
  refine ⟨_, rfl, brc_false rfl ?_⟩
  refine (k32 (M := MDisk.new 9) (by decide) (by decide) hS1 hD aN).mono ?_
  rintro _ w2 ⟨D2, C2, rfl, hD2, hS2⟩
  rw [sh_1]
  refine ⟨0, rfl, brc_false rfl ?_⟩
  have hD2 : DRep D2 shM1 [] := hD2
  have hS2 : Sep E w2 (D2.chunks shM1 d ++ (C2 ++ L)) := hS2
  obtain ⟨s3, w3, C3, h3, hr3, hS3⟩ := hS2.zeros 5 (by decide)
  refine ⟨s3, w3, h3, ?_⟩
  have hS3' : Sep E w3 (D2.chunks shM1 d ++ (C3 ++ (C2 ++ L))) := hS3.weak (by intro f; simp only [ms_append, ms_cons, ms_nil]; omega)
  refine (k33 (M := shM1) (by decide) hS3' hD2 (by decide) (by decide) (fun c hc => by cases hc) aN (hr3.mono fun c hc => by simp [hc]) (by decide)).mono ?_
  rintro _ w4 ⟨D4, C4, rfl, hD4, hS4⟩
  rw [sh_2]
  refine ⟨0, rfl, brc_false rfl ?_⟩
  have hD4 : DRep D4 shM2 (C4 ++ []) := hD4
  have hS4 : Sep E w4 (D4.chunks shM2 d ++ (C4 ++ (C3 ++ (C2 ++ L)))) := hS4
  refine (k45 hS4 hD4 (fun c hc => by simp at hc; simp [hc]) shG2 shS2 (by decide) (by decide) 0 (sb := SV.nil) (ns := []) (RdS.none _ _)).mono ?_
  rintro _ w5 ⟨D5, C5, rfl, hD5, hS5⟩
  refine ⟨0, rfl, brc_false rfl ?_⟩
  have hD5 : DRep D5 shM3 (C4 ++ []) := hD5
  have hS5 : Sep E w5 (D5.chunks shM3 d ++ (C5 ++ (C4 ++ (C3 ++ (C2 ++ L))))) := hS5
  refine (k50 (M := shM3) (by decide) hS5 hD5 (by decide)).mono ?_
  rintro _ w6 ⟨s6, C6, rfl, hr6, hD6, hS6⟩
  rw [sh_4'] at hr6
  have h6 : s6.len = 0 := by have := hr6.len1; simpa using this
  rw [sh_4]
  refine ⟨s6, 0, rfl, brc_false (by rw [h6]; rfl) (brc_false rfl ?_)⟩
  have hD6 : DRep D5 shM4 (C4 ++ []) := hD6
  have hS6 : Sep E w6 (D5.chunks shM4 d ++ (C6 ++ (C5 ++ (C4 ++ (C3 ++ (C2 ++ L)))))) := hS6
  refine (k32 (M := shM4) (by decide) (by decide) hS6 hD6 aN).mono ?_
  rintro _ w7 ⟨D7, C7, rfl, hD7, hS7⟩
  rw [sh_5]
  refine ⟨0, rfl, brc_false rfl ?_⟩
  have hD7 : DRep D7 shM5 (C4 ++ []) := hD7
  have hS7 : Sep E w7 (D7.chunks shM5 d ++ (C7 ++ (C6 ++ (C5 ++ (C4 ++ (C3 ++ (C2 ++ L))))))) := hS7
  refine (k55 (M := shM5) (by decide) hS7 hD7).mono ?_
  rintro _ w8 ⟨D8, C8, rfl, hD8, hS8⟩
  rw [sh_6]
  refine ⟨0, rfl, brc_false rfl ?_⟩
  have hD8 : DRep D8 shM6 (C4 ++ []) := hD8
  have hS8 : Sep E w8 (D8.chunks shM6 d ++ (C8 ++ (C7 ++ (C6 ++ (C5 ++ (C4 ++ (C3 ++ (C2 ++ L)))))))) := hS8
  obtain ⟨s9, w9, C9, h9, hr9, hS9⟩ := hS8.zeros 5 (by decide)
  refine ⟨s9, w9, h9, ?_⟩
  let G9 := C8 ++ (C7 ++ (C6 ++ (C5 ++ (C3 ++ C2))))
  have hS9' : Sep E w9 (D8.chunks shM6 d ++ (C9 ++ (C4 ++ (G9 ++ L)))) := hS9.weak (by intro f; simp only [G9, ms_append]; omega)
  clear_value G9
  refine (k33 (M := shM6) (by decide) hS9' hD8 (by decide) (by decide) (fun c hc => by simp at hc; simp [hc]) aN (hr9.mono fun c hc => by simp [hc]) (by decide)).mono ?_
  rintro _ w10 ⟨D10, C10, rfl, hD10, hS10⟩
  rw [sh_7]
  refine ⟨0, rfl, brc_false rfl ?_⟩
  have hD10 : DRep D10 shM7 (C10 ++ (C4 ++ [])) := hD10
  have hS10 : Sep E w10 (D10.chunks shM7 d ++ (C10 ++ (C9 ++ (C4 ++ (G9 ++ L))))) := hS10
  obtain ⟨s11, w11, C11, h11, ho11, hS11⟩ := Sep.litG1 encI_ok ti61 (x := (2 : Int)) (v := .int .i64 2) hS10 (by kernel_rfl)
  refine ⟨s11, w11, h11, ?_⟩
  have hS11' : Sep E w11 (D10.chunks shM7 d ++ (C11 ++ (C10 ++ (C9 ++ (C4 ++ (G9 ++ L)))))) := hS11.weak (by intro f; simp only [ms_append, ms_cons, ms_nil]; omega)
  have hsub : ∀ {C : List Chunk}, ∀ c ∈ C10 ++ (C4 ++ []), c ∈ C ++ (C10 ++ (C9 ++ (C4 ++ (G9 ++ L)))) := fun c hc => by
    simp only [List.append_nil, List.mem_append] at hc ⊢
    rcases hc with hc | hc
    · exact .inr (.inl hc)
    · exact .inr (.inr (.inr (.inl hc)))
  refine (k45 hS11' hD10 hsub shG7 shS7 (by decide) (by decide) 0 (sb := s11) (ns := [2]) (ho11.rds.mono fun c hc => by simp [hc])).mono ?_
  rintro _ w12 ⟨D12, C12, rfl, hD12, hS12⟩
  refine ⟨0, rfl, brc_false rfl ?_⟩
  have hD12 : DRep D12 shM8 (C10 ++ (C4 ++ [])) := hD12
  have hS12 : Sep E w12 (D12.chunks shM8 d ++ ((C12 ++ C11) ++ (C10 ++ (C9 ++ (C4 ++ (G9 ++ L)))))) := Sep.weak (L := D12.chunks shM8 d ++ (C12 ++ (C11 ++ (C10 ++ (C9 ++ (C4 ++ (G9 ++ L))))))) hS12 (by intro f; simp only [ms_append, ms_cons, ms_nil]; omega)
  refine (k28 (M := shM8) (by decide) hS12 hD12 hsub aN (fun f hf => by have := shS8.each f hf; omega)).mono ?_
  rintro _ w13 ⟨s13, C13, rfl, hr13, _, hD13, hS13⟩
  have h13 : s13.len = 2 := by rw [hr13.size]; exact sh_9'
  rw [sh_9]
  refine ⟨s13, 0, rfl, brc_true (by rw [h13]; rfl) (brc_true rfl ?_)⟩
  have hD13 : DRep D12 shM9 (C10 ++ (C4 ++ [])) := hD13
  have hS13 : Sep E w13 (D12.chunks shM9 d ++ (C13 ++ ((C12 ++ C11) ++ (C10 ++ (C9 ++ (C4 ++ (G9 ++ L))))))) := hS13
  obtain ⟨s14, w14, C14, h14, hr14, hS14⟩ := hS13.zeros 8 (by decide)
  refine ⟨s14, w14, h14, ?_⟩
  have hS14' : Sep E w14 (D12.chunks shM9 d ++ ((C14 ++ (C13 ++ (C12 ++ C11))) ++ (C10 ++ (C9 ++ (C4 ++ (G9 ++ L)))))) := hS14.weak (by intro f; simp only [ms_append, ms_cons, ms_nil]; omega)
  refine (k33 (M := shM9) (by decide) hS14' hD13 (by decide) (by decide) hsub aN (hr14.mono fun c hc => by simp [hc]) (by decide)).mono ?_
  rintro _ w15 ⟨D15, C15, rfl, hD15, hS15⟩
  rw [sh_10]
  exact ⟨41, rfl, rfl, D15.chunks (shM9.append aN (List.replicate 8 0)).2 d ++ (C15 ++ ((C14 ++ (C13 ++ (C12 ++ C11))) ++ (C10 ++ (C9 ++ (C4 ++ G9))))), hS15.weak (by intro f; simp only [ms_append, ms_cons, ms_nil]; omega)⟩

/-- DiskPlays. -/
theorem k7 {E w : World} {L : List Chunk} (hS : Sep E w L) (room : Int) {s : SV} {l : List Act} (hs : RdS L 7 s (l.flatMap encA)) (hn : l.length ≤ 9223372036854775807) (hl : ∀ x ∈ l, ActOk L x) (wn : Int) {sw : SV} {wl : List Int} (hw : RdS L 1 sw (wl.map intV)) :
    Calls Pr 7 #[.int .i64 room, .slice s.a s.len s.cap, .agg #[.int .i64 wn, .slice sw.a sw.len sw.cap]] w fun e w' => e = .returned (.bool true) ∧ ∃ C, Sep E w' (C ++ L) := by
  refine call7 ?_
  unfold ir7
  obtain ⟨q, w1, h1, hS1⟩ := hS.newVar (t := 63) (v := .agg #[intV wn, slV sw])
  let wC : Chunk := (q, .cells #[intV wn, slV sw] 63 (0, 0))
  have hS1 : Sep E w1 (wC :: L) := hS1
  refine ⟨_, w1, h1, ?_⟩
  refine (k35 hS1).mono ?_
  rintro _ w2 ⟨rfl, C2, hS2⟩
  refine ⟨true, rfl, ?_⟩
  refine (k25 hS2 room).mono ?_
  rintro _ w3 ⟨d, D, rfl, hD, hS3⟩
  refine ⟨_, rfl, ?_⟩
  refine (k36 hS3 room).mono ?_
  rintro _ w4 ⟨R, r, rfl, hR, hS4⟩
  refine ⟨_, rfl, brc_false rfl ?_⟩
  have hY : ∀ c ∈ L, c ∈ R.chunks (MDisk.new room) r ++ (D.chunks (MDisk.new room) d ++ (C2 ++ wC :: L)) := fun c hc => by simp [hc]
  refine (k37 hS4 hs hY hn hl).mono ?_
  rintro _ w5 ⟨s1, l', C1, G1, rfl, ho, hl1, hl2, hS5⟩
  refine ⟨s1, rfl, ?_⟩
  have hsz := RdG.size encA_ok ho.rds
  have hS5' : Sep E w5 (D.chunks (MDisk.new room) d ++ (R.chunks (MDisk.new room) r ++ (C1 ++ (wC :: ((G1 ++ C2) ++ L))))) := hS5.weak (by intro f; simp only [ms_append, ms_cons, ms_nil]; omega)
  -- the acts
  refine ⟨fun k σ w => ∃ (j : Nat) (M : MDisk) (D : DS) (R : RS) (G : List Chunk), j ≤ l'.length ∧ k = l'.length - j ∧ σ = ((j : Int), ()) ∧ M.Good ∧ M.Small j (j * 50) ∧ DRep D M (G ++ L) ∧ RRep R M (G ++ L) ∧ Sep E w (D.chunks M d ++ (R.chunks M r ++ (C1 ++ (wC :: (G ++ L))))), l'.length,
    ⟨0, MDisk.new room, D, R, G1 ++ C2, Nat.zero_le _, rfl, rfl, MDisk.good_new room, (MDisk.small_new room).mono (Nat.le_refl _) (Nat.zero_le _), hD.mono (fun c hc => by cases hc), hR.mono (fun c hc => by cases hc), hS5'⟩, ?_⟩
  clear hS1 hS2 hS3 hS4 hS5 hS5' hD hR hY h1 D R
  rintro k σ w6 ⟨j, M, D, R, G, hj, rfl, rfl, hg, hm, hD, hR, hS6⟩ _
  dsimp only
  refine brc_intro (fun h => ?_) (fun h => ?_)
  · have h : j < l'.length := by simp at h; omega
    have hx : l'[j]? = some l'[j] := List.getElem?_eq_getElem h
    have hxm : l'[j] ∈ l' := List.getElem_mem h
    generalize l'[j] = x at hx hxm
    obtain ⟨hxo, hxb⟩ := hl2 x hxm
    obtain ⟨a, ha, hat0, _⟩ := RdG.at_ encA_ok ho.rds hx
    rw [ha]
    refine ⟨⟨by omega, by omega⟩, x.kind, x.name, x.to, x.sb, x.n, x.wn, x.swb, hat0 (t := 68) (by kernel_rfl) (by kernel_rfl) hS6 (fun c hc => by simp [hc]), ?_⟩
    obtain ⟨y, w7, h7, hS7⟩ := hS6.alloc (t := 68) z68
    refine ⟨_, w7, h7, ?_⟩
    obtain ⟨w8, h8, hS8⟩ := Sep.store (cs := [.int .u8 0, .string ByteArray.empty, .string ByteArray.empty, .slice none 0 0, .int .i64 0, .int .i64 0, .slice none 0 0]) (o := 0) (n := 7) (v := .agg (encA x).toArray) (t := 68) hS7 (by kernel_rfl) rfl (by simp [encA, Value.cells]) (by simp [encA, Value.cells, Value.oneCell'])
    let X : Chunk := (y, .cells (encA x).toArray 68 (0, 0))
    have hS8 : Sep E w8 (X :: (D.chunks M d ++ (R.chunks M r ++ (C1 ++ (wC :: (G ++ L)))))) := hS8
    let S : World → Prop := fun w => Sep E w [X]
    have lX : ∀ w, S w → At Pr w (loadVar 68 ⟨y, 0, none⟩) (.agg (encA x).toArray) := fun w hw => Sep.loadS (L := [X]) hw (b := y) (o := 0) (n := 7) List.mem_cons_self (by kernel_rfl) (by kernel_rfl) rfl (by simp [encA])
    refine ⟨w8, h8, S, hS8.drew.weak (by intro f; simp only [ms_append, ms_cons, ms_nil]; omega), x.kind, x.name, x.to, x.sb, x.n, x.wn, x.swb, lX, x.kind, x.name, x.to, x.sb, x.n, x.wn, x.swb, lX, ?_⟩
    have hS8' : Sep E (World.drew w8) (D.chunks M d ++ (X :: (R.chunks M r ++ (C1 ++ (wC :: (G ++ L)))))) := hS8.drew.weak (by intro f; simp only [ms_append, ms_cons, ms_nil]; omega)
    have hjb : j * 50 ≤ 100 * 50 := Nat.mul_le_mul_right _ (by omega)
    refine (k38 hS8' hD (fun c hc => by
      simp only [List.mem_cons, List.mem_append] at hc ⊢
      exact .inr (.inr (.inr (.inr hc)))) hg hm (by omega) (by omega) (hxo.mono fun c hc => by simp [hc]) (by omega)).mono ?_
    rintro _ w9 ⟨D9, C9, rfl, hD9, hS9⟩
    refine ⟨_, rfl, S, fun w hw => hw, hS9.weak (by intro f; simp only [ms_append, ms_cons, ms_nil]; omega), ?_⟩
    have hS9' : Sep E w9 (R.chunks M r ++ (D9.chunks (actM M x).2 d ++ (C9 ++ (X :: (C1 ++ (wC :: (G ++ L))))))) := hS9.weak (by intro f; simp only [ms_append, ms_cons, ms_nil]; omega)
    refine (k39 hS9' hR (fun c hc => by
      simp only [List.mem_cons, List.mem_append] at hc ⊢
      exact .inr (.inr (.inr (.inr (.inr hc))))) hg hm (by omega) (by omega) (hxo.mono fun c hc => by simp [hc]) (by omega)).mono ?_
    rintro _ w10 ⟨R10, C10, rfl, hR10, hS10⟩
    refine ⟨_, rfl, S, fun w hw => hw, hS10.weak (by intro f; simp only [ms_append, ms_cons, ms_nil]; omega), brc_false (by simp) ?_⟩
    have hg' := actM_good hg x
    have hm' : (actM M x).2.Small (j + 1) ((j + 1) * 50) := (actM_small hg hm hxo.n).mono (Nat.le_refl _) (by rw [Nat.succ_mul]; omega)
    have hjb' : (j + 1) * 50 ≤ 100 * 50 := Nat.mul_le_mul_right _ (by omega)
    generalize (actM M x).2 = M' at *
    have hT := small_tot hm' (by omega) (by omega)
    have hcc := small_ch hm'
    have hS10' : Sep E w10 (D9.chunks M' d ++ (R10.chunks M' r ++ (C10 ++ (C9 ++ (X :: (C1 ++ (wC :: (G ++ L)))))))) := hS10.weak (by intro f; simp only [ms_append, ms_cons, ms_nil]; omega)
    refine (k40 hS10' hD9 (by omega) (by omega)).mono ?_
    rintro _ w11 ⟨C11, rfl, hS11⟩
    refine ⟨_, rfl, S, fun w hw => hw, hS11.weak (by intro f; simp only [ms_append, ms_cons, ms_nil]; omega), ?_⟩
    have hS11' : Sep E w11 (R10.chunks M' r ++ (D9.chunks M' d ++ (C11 ++ (C10 ++ (C9 ++ (X :: (C1 ++ (wC :: (G ++ L)))))))) ) := hS11.weak (by intro f; simp only [ms_append, ms_cons, ms_nil]; omega)
    refine (k41 hS11' hR10 (fun c hc => by
      simp only [List.mem_cons, List.mem_append] at hc ⊢
      rcases hc with hc | hc
      · exact .inr (.inr (.inl hc))
      · exact .inr (.inr (.inr (.inr (.inr (.inr (.inr hc))))))) hg' hm' (by omega) (by omega)).mono ?_
    rintro _ w12 ⟨C12, rfl, hS12⟩
    refine ⟨_, rfl, S, fun w hw => hw, hS12.weak (by intro f; simp only [ms_append, ms_cons, ms_nil]; omega), brc_false (by simp) ?_⟩
    refine ⟨l'.length - (j + 1), by omega, j + 1, M', D9, R10, C12 ++ (C11 ++ (C10 ++ (C9 ++ (X :: G)))), by omega, rfl, by rw [w64 (by omega) (by omega)]; rfl, hg', hm', hD9.mono fun c hc => ?_, hR10.mono fun c hc => ?_, hS12.weak (by intro f; simp only [ms_append, ms_cons, ms_nil]; omega)⟩
    · simp only [List.mem_cons, List.mem_append] at hc ⊢
      rcases hc with hc | hc | hc
      · exact .inl (.inr (.inr (.inr (.inl hc))))
      · exact .inl (.inr (.inr (.inr (.inr (.inr hc)))))
      · exact .inr hc
    · simp only [List.mem_cons, List.mem_append] at hc ⊢
      rcases hc with hc | hc | hc
      · exact .inl (.inr (.inr (.inl hc)))
      · exact .inl (.inr (.inr (.inr (.inr (.inr hc)))))
      · exact .inr hc
  · -- a clone, and a crash
    have hjb : j * 50 ≤ 100 * 50 := Nat.mul_le_mul_right _ (by omega)
    refine (k42 hS6 hD hg hm (by omega)).mono ?_
    rintro _ w13 ⟨Dx, x, ord, C13, rfl, hcov, hDx, hS13⟩
    refine ⟨_, rfl, brc_false rfl ?_⟩
    have hS13' : Sep E w13 (R.chunks M r ++ (Dx.chunks (M.renum ord) x ++ (D.chunks M d ++ (C13 ++ (C1 ++ (wC :: (G ++ L))))))) := hS13.weak (by intro f; simp only [ms_append, ms_cons, ms_nil]; omega)
    refine (k44 hS13' hR hm (by omega)).mono ?_
    rintro _ w14 ⟨Ry, y, C14, rfl, hRy, hS14⟩
    refine ⟨_, rfl, ?_⟩
    have hS14' : Sep E w14 (D.chunks M d ++ (Ry.chunks M y ++ (R.chunks M r ++ (Dx.chunks (M.renum ord) x ++ (C14 ++ (C13 ++ (C1 ++ (wC :: (G ++ L))))))))) := hS14.weak (by intro f; simp only [ms_append, ms_cons, ms_nil]; omega)
    refine (k43 hS14' hD hRy (fun c hc => by
      simp only [List.mem_cons, List.mem_append] at hc ⊢
      exact .inr (.inr (.inr (.inr (.inr (.inr hc)))))) hg hm (by omega) (by omega)).mono ?_
    rintro _ w15 ⟨rfl, hS15⟩
    have mw : wC ∈ R.chunks M r ++ (Dx.chunks (M.renum ord) x ++ (C14 ++ (C13 ++ (C1 ++ (wC :: (G ++ L)))))) := by simp
    refine ⟨true, rfl, brc_false rfl ⟨wn, sw, hS15.loadS (b := q) (o := 0) (n := 2) mw (by kernel_rfl) (by kernel_rfl) rfl (by simp), ?_⟩⟩
    have hS15' : Sep E w15 (Dx.chunks (M.renum ord) x ++ (R.chunks M r ++ (C14 ++ (C13 ++ (C1 ++ (wC :: (G ++ L))))))) := hS15.weak (by intro f; simp only [ms_append, ms_cons, ms_nil]; omega)
    refine (k45 hS15' hDx (fun c hc => by
      simp only [List.mem_cons, List.mem_append] at hc ⊢
      exact .inr (.inr (.inr (.inr (.inr hc))))) (good_ren hg hcov) (small_ren hm hcov) (by omega) (by omega) wn (hw.mono fun c hc => by simp [hc])).mono ?_
    rintro _ w16 ⟨D16, C16, rfl, hD16, hS16⟩
    rw [crash_ren hcov] at hD16 hS16
    have mw2 : wC ∈ D16.chunks (M.crash wn wl) x ++ (C16 ++ (R.chunks M r ++ (C14 ++ (C13 ++ (C1 ++ (wC :: (G ++ L))))))) := by simp
    refine ⟨0, rfl, wn, sw, hS16.loadS (b := q) (o := 0) (n := 2) mw2 (by kernel_rfl) (by kernel_rfl) rfl (by simp), ?_⟩
    have hS16' : Sep E w16 (R.chunks M r ++ (D16.chunks (M.crash wn wl) x ++ (C16 ++ (C14 ++ (C13 ++ (C1 ++ (wC :: (G ++ L)))))))) := hS16.weak (by intro f; simp only [ms_append, ms_cons, ms_nil]; omega)
    refine (k46 hS16' hR (fun c hc => by
      simp only [List.mem_cons, List.mem_append] at hc ⊢
      exact .inr (.inr (.inr (.inr (.inr (.inr hc)))))) hg hm (by omega) (by omega) wn (hw.mono fun c hc => by simp [hc])).mono ?_
    rintro _ w17 ⟨R17, C17, rfl, hR17, hS17⟩
    refine ⟨0, rfl, brc_true rfl ?_⟩
    have hS17' : Sep E w17 (D16.chunks (M.crash wn wl) x ++ (R17.chunks (M.crash wn wl) r ++ (C17 ++ (C16 ++ (C14 ++ (C13 ++ (C1 ++ (wC :: (G ++ L)))))))))  := hS17.weak (by intro f; simp only [ms_append, ms_cons, ms_nil]; omega)
    refine (k43 hS17' (hD16.right C17) hR17 (fun c hc => by
      simp only [List.mem_cons, List.mem_append] at hc ⊢
      rcases hc with hc | hc
      · exact .inl hc
      · exact .inr (.inr (.inr (.inr (.inr (.inr hc)))))) (hg.crash wn wl) (hm.crash wn wl) (by omega) (by omega)).mono ?_
    rintro _ w18 ⟨rfl, hS18⟩
    exact ⟨true, rfl, rfl, C17 ++ (C16 ++ (C14 ++ (C13 ++ (C1 ++ (wC :: G))))), hS18.weak (by intro f; simp only [ms_append, ms_cons, ms_nil]; omega)⟩

end Go.Proofs.Ytonjaaljnjjjcaa

/- PlacePlays: acts, on both disks. Conditions: as each lemma says. -/
set_option linter.unusedVariables false
set_option linter.unusedSimpArgs false
namespace Go.Proofs.Ytonjaaljnjjjcaa
open Go Go.RowKit

structure PAct where
  kind : Int
  name : ByteArray
  sb : SV
  b : List UInt8
  sn : SV
  names : List ByteArray
  wn : Int
  swb : SV
  wb : List Int
  n : Int

def encP (x : PAct) : List Value := [.int .u8 x.kind, .string x.name, slV x.sb, slV x.sn, .int .i64 x.wn, slV x.swb, .int .i64 x.n]
theorem encP_ok : EncOk encP 7 := ⟨fun _ => rfl, fun x u hu => by simp [encP] at hu; rcases hu with rfl | rfl | rfl | rfl | rfl | rfl | rfl <;> rfl, by decide⟩
theorem ti82 : TI 82 85 7 112 (.agg #[.int .u8 0, .string ByteArray.empty, .slice none 0 0, .slice none 0 0, .int .i64 0, .slice none 0 0, .int .i64 0]) := ⟨by kernel_rfl, by kernel_rfl, rfl, by decide⟩
theorem z85 : (Pr.info? 85).bind (·.zero) = some (.agg #[.int .u8 0, .string ByteArray.empty, .slice none 0 0, .slice none 0 0, .int .i64 0, .slice none 0 0, .int .i64 0]) := by kernel_rfl

structure PActOk (I : List Chunk) (x : PAct) : Prop where
  b : RdB I x.sb x.b
  names : RdS I 1 x.sn (x.names.flatMap encK)
  wb : RdS I 1 x.swb (x.wb.map intV)
  n : x.n ≤ 9223372036854775807

theorem PActOk.mono {I I' : List Chunk} {x : PAct} (h : PActOk I x) (hI : ∀ c ∈ I, c ∈ I') : PActOk I' x := ⟨h.b.mono hI, h.names.mono hI, h.wb.mono hI, h.n⟩

def actP (M : MDisk) (x : PAct) : Int × MDisk :=
  if Int.tmod x.kind 5 = 0 then putM M x.name x.b
  else if Int.tmod x.kind 5 = 1 then growM M x.name x.b
  else if Int.tmod x.kind 5 = 2 then dropM M x.names
  else if Int.tmod x.kind 5 = 3 then (0, M.crash x.wn x.wb)
  else M.doom x.n

theorem actP_good {M : MDisk} (h : M.Good) (x : PAct) : (actP M x).2.Good := by
  unfold actP
  split
  · exact putM_good h _ _
  split
  · exact growM_good h _ _
  split
  · exact dropM_good h _
  split
  · exact h.crash _ _
  · exact h.doom _
theorem actP_small {M : MDisk} {n b : Nat} (hg : M.Good) (h : M.Small n b) {x : PAct} (hx : x.n ≤ 9223372036854775807) (hl : x.names.length ≤ 10) : (actP M x).2.Small (n + 10) (b + x.b.length) := by
  unfold actP
  split
  · exact (putM_small hg h _ _).mono (by omega) (by omega)
  split
  · exact (growM_small hg h _ _).mono (by omega) (by omega)
  split
  · exact (dropM_small hg h _).mono (by omega) (by omega)
  split
  · exact (h.crash _ _).mono (by omega) (by omega)
  · exact (h.doom hx).mono (by omega) (by omega)

/-- few. -/
theorem k51 {E w : World} {L I : List Chunk} {s : SV} {l : List PAct} (hS : Sep E w L) (hs : RdS I 7 s (l.flatMap encP)) (hI : ∀ c ∈ I, c ∈ L) (hn : l.length ≤ 9223372036854775807) (hl : ∀ x ∈ l, PActOk I x) :
    Calls Pr 51 #[.slice s.a s.len s.cap] w fun e w' => ∃ (s' : SV) (l' : List PAct) (C G : List Chunk), e = .returned (.slice s'.a s'.len s'.cap) ∧ Own 85 7 s' (l'.flatMap encP) C ∧ l'.length ≤ 40 ∧ (∀ x ∈ l', PActOk I x ∧ x.b.length ≤ 300 ∧ x.names.length ≤ 10) ∧ Sep E w' (C ++ (G ++ L)) := by
  refine call51 ?_
  unfold ir51
  have hsz := RdG.size encP_ok hs
  refine ⟨fun n σ w1 => ∃ (j : Nat) (l' : List PAct) (C G : List Chunk), j ≤ l.length ∧ n = l.length - j ∧ σ.1 = (j : Int) ∧ Own 85 7 σ.2.1 (l'.flatMap encP) C ∧ l'.length ≤ 40 ∧ l'.length ≤ j ∧ (∀ x ∈ l', PActOk I x ∧ x.b.length ≤ 300 ∧ x.names.length ≤ 10) ∧ Sep E w1 (C ++ (G ++ L)), l.length, ⟨0, [], [], [], Nat.zero_le _, rfl, rfl, Own.nil _ _, Nat.zero_le _, Nat.zero_le _, (fun x hx => by cases hx), hS⟩, ?_⟩
  rintro n ⟨jj, s', u⟩ w1 ⟨j, l', C, G, hj, rfl, hjj, ho, hl1, hl2, hl3, hS1⟩ _
  dsimp only at hjj ho ⊢
  subst hjj
  refine brc_intro (fun h => ?_) (fun h => ?_)
  · have h : j < l.length := by simp at h; omega
    have hx : l[j]? = some l[j] := List.getElem?_eq_getElem h
    have hxm : l[j] ∈ l := List.getElem_mem h
    generalize l[j] = x at hx hxm
    have hxo := hl x hxm
    obtain ⟨a, ha, hat0, _⟩ := RdG.at_ encP_ok hs hx
    rw [ha]
    refine ⟨⟨by omega, by omega⟩, x.kind, x.name, x.sb, x.sn, x.wn, x.swb, x.n, hat0 (t := 85) (by kernel_rfl) (by kernel_rfl) hS1 (fun c hc => by simp [hI c hc]), ?_⟩
    obtain ⟨q, w2, h2, hS2⟩ := hS1.alloc (t := 85) z85
    refine ⟨_, w2, h2, ?_⟩
    obtain ⟨w3, h3, hS3⟩ := Sep.store (cs := [.int .u8 0, .string ByteArray.empty, .slice none 0 0, .slice none 0 0, .int .i64 0, .slice none 0 0, .int .i64 0]) (o := 0) (n := 7) (v := .agg (encP x).toArray) (t := 85) hS2 (by kernel_rfl) rfl (by simp [encP, Value.cells]) (by simp [encP, Value.cells, Value.oneCell'])
    let X : Chunk := (q, .cells (encP x).toArray 85 (0, 0))
    have hS3 : Sep E w3 (X :: (C ++ (G ++ L))) := hS3
    refine ⟨w3, h3, ?_⟩
    have skip : ∃ n', n' < l.length - j ∧ ∃ (j' : Nat) (l'' : List PAct) (C G : List Chunk), j' ≤ l.length ∧ n' = l.length - j' ∧ IntKind.wrap .i64 ((j : Int) + 1) = (j' : Int) ∧ Own 85 7 s' (l''.flatMap encP) C ∧ l''.length ≤ 40 ∧ l''.length ≤ j' ∧ (∀ x ∈ l'', PActOk I x ∧ x.b.length ≤ 300 ∧ x.names.length ≤ 10) ∧ Sep E w3 (C ++ (G ++ L)) :=
      ⟨l.length - (j + 1), by omega, j + 1, l', C, X :: G, by omega, rfl, by rw [w64 (by omega) (by omega)]; rfl, ho, hl1, by omega, hl3, hS3.weak (by intro f; simp only [ms_append, ms_cons, ms_nil]; omega)⟩
    refine brc_intro (fun h4 => ?_) (fun _ => skip)
    have h4 : (j : Int) < 40 := by simpa using h4
    refine ⟨x.sb, hS3.load (b := q) (o := 2) List.mem_cons_self rfl (by kernel_rfl), brc_intro (fun h5 => ?_) (fun _ => skip)⟩
    have h5 : ((x.sb.len : Nat) : Int) ≤ 300 := by simpa using h5
    have hbl := hxo.b.size
    refine ⟨x.name, hS3.load (b := q) (o := 1) List.mem_cons_self rfl (by kernel_rfl), brc_intro (fun _ => ?_) (fun _ => skip)⟩
    refine ⟨x.sn, hS3.load (b := q) (o := 3) List.mem_cons_self rfl (by kernel_rfl), brc_intro (fun h6 => ?_) (fun _ => skip)⟩
    have h6 : ((x.sn.len : Nat) : Int) ≤ 10 := by simpa using h6
    have hnl := RdG.size encK_ok hxo.names
    refine ⟨x.swb, by rw [addA]; exact hS3.load (b := q) (o := 5) List.mem_cons_self rfl (by kernel_rfl), brc_intro (fun _ => ?_) (fun _ => skip)⟩
    refine ⟨x.kind, x.name, x.sb, x.sn, x.wn, x.swb, x.n, hS3.loadS (b := q) (o := 0) (n := 7) List.mem_cons_self (by kernel_rfl) (by kernel_rfl) rfl (by simp [encP]), ?_⟩
    have hS3' : Sep E w3 (C ++ (X :: (G ++ L))) := hS3.weak (by intro f; simp only [ms_append, ms_cons, ms_nil]; omega)
    obtain ⟨s4, w4, h7, s5, w5, C', G', h8, ho7, hS7⟩ := Sep.pushG encP_ok ti82 (x := x) (v := .agg (encP x).toArray) (ty := 82) hS3' ho (by kernel_rfl) (by omega) (by unfold maxLen; omega)
    refine ⟨s4, w4, h7, s5, w5, h8, l.length - (j + 1), by omega, j + 1, l' ++ [x], C', G' ++ (X :: G), by omega, rfl, by rw [w64 (by omega) (by omega)]; rfl, ho7, by simp; omega, by simp; omega, fun y hy => ?_, hS7.weak (by intro f; simp only [ms_append, ms_cons, ms_nil]; omega)⟩
    rcases List.mem_append.1 hy with hy | hy
    · exact hl3 y hy
    · rw [List.mem_singleton] at hy
      subst hy
      exact ⟨hxo, by omega, by omega⟩
  · exact ⟨s', l', C, G, rfl, ho, hl1, hl3, hS1⟩

/-- does. -/
theorem k52 {E w : World} {Y : List Chunk} {M : MDisk} {d r n0 b0 : Nat} (hT : Two E w M d r Y) (hg : M.Good) (hm : M.Small n0 b0) (hn : n0 + 20 ≤ 10000) (hb : b0 + 300 ≤ 10000000) {x : PAct} (hx : PActOk Y x) (hxb : x.b.length ≤ 300) (hxn : x.names.length ≤ 10) :
    Calls Pr 52 #[.pointer (some ⟨d, 0, none⟩), .pointer (some ⟨r, 0, none⟩), .agg (encP x).toArray] w fun e w' => e = .returned (.bool true) ∧ Two E w' (actP M x).2 d r Y := by
  refine call52 ?_
  unfold ir52
  obtain ⟨D, R, G, hD, hR, hS⟩ := hT
  obtain ⟨a, w1, h1, hS1⟩ := hS.newVar (t := 85) (v := .agg (encP x).toArray)
  let X : Chunk := (a, .cells (encP x).toArray 85 (0, 0))
  have hS1 : Sep E w1 (X :: (D.chunks M d ++ (R.chunks M r ++ (G ++ Y)))) := hS1
  have hT1 : Two E w1.drew M d r (X :: Y) := ⟨D, R, G, hD.mono (sub_app fun c hc => List.mem_cons_of_mem _ hc), hR.mono (sub_app fun c hc => List.mem_cons_of_mem _ hc), hS1.drew.weak (by intro f; simp only [ms_append, ms_cons, ms_nil]; omega)⟩
  let S : World → Prop := fun w => Sep E w (X :: Y)
  have hfine : Fine M := ⟨hg, hm.mono (by omega) (by omega)⟩
  have hX : ∀ {M' : MDisk} {w : World}, Two E w M' d r (X :: Y) → Two E w M' d r Y := by
    rintro M' w ⟨D, R, G, hD, hR, hS⟩
    refine ⟨D, R, G ++ [X], ?_, ?_, hS.weak (by intro f; simp only [ms_append, ms_cons, ms_nil]; omega)⟩
    · have e : (G ++ [X]) ++ Y = G ++ (X :: Y) := by simp
      rw [e]
      exact hD
    · have e : (G ++ [X]) ++ Y = G ++ (X :: Y) := by simp
      rw [e]
      exact hR
  have l1 : ∀ w, S w → At Pr w (loadVar 9 (Addr.add ⟨a, 0, none⟩ 1)) (.string x.name) := fun w hw => Sep.load (L := X :: Y) hw (b := a) (o := 1) List.mem_cons_self rfl (by kernel_rfl)
  have l2 : ∀ w, S w → At Pr w (loadVar 26 (Addr.add ⟨a, 0, none⟩ 2)) (slV x.sb) := fun w hw => Sep.load (L := X :: Y) hw (b := a) (o := 2) List.mem_cons_self rfl (by kernel_rfl)
  have l3 : ∀ w, S w → At Pr w (loadVar 78 (Addr.add ⟨a, 0, none⟩ 3)) (slV x.sn) := fun w hw => Sep.load (L := X :: Y) hw (b := a) (o := 3) List.mem_cons_self rfl (by kernel_rfl)
  have l4 : ∀ w, S w → At Pr w (loadVar 63 (Addr.add ⟨a, 0, none⟩ 4)) (.agg #[.int .i64 x.wn, slV x.swb]) := fun w hw => Sep.loadS (L := X :: Y) hw (b := a) (o := 4) (n := 2) List.mem_cons_self (by kernel_rfl) (by kernel_rfl) rfl (by simp [encP])
  have l6 : ∀ w, S w → At Pr w (loadVar 3 (Addr.add ⟨a, 0, none⟩ 6)) (.int .i64 x.n) := fun w hw => Sep.load (L := X :: Y) hw (b := a) (o := 6) List.mem_cons_self rfl (by kernel_rfl)
  refine ⟨_, w1, h1, x.kind, hS1.load (b := a) (o := 0) List.mem_cons_self rfl (by kernel_rfl), by decide, ?_⟩
  refine brc_intro (fun h0 => ?_) (fun h0 => ?_)
  · have h0 : Int.tmod x.kind 5 = 0 := by simpa using h0
    have e : actP M x = putM M x.name x.b := by unfold actP; rw [if_pos h0]
    rw [e]
    refine ⟨S, hT1.sep, x.name, l1, x.sb, l2, x.name, l1, x.sb, l2, ?_⟩
    refine (hT1.step (fun I Y' hI hY hDk => d48 hDk hI hg hm (by omega) (by omega) x.name (hx.b.mono fun c hc => hY c (List.mem_cons_of_mem _ hc))) (fun w' I Y' hI hY hRk => r119 hRk hI hg hm (by omega) (by omega) x.name (hx.b.mono fun c hc => hY c (List.mem_cons_of_mem _ hc)))).mono ?_
    rintro _ w2 ⟨rfl, hS2, hc⟩
    refine ⟨_, rfl, S, fun w hw => hw, hS2, hc.mono ?_⟩
    rintro _ w3 ⟨rfl, hT3⟩
    exact ⟨_, rfl, S, fun w hw => hw, hT3.sep, by simp, hX hT3⟩
  have h0 : ¬ Int.tmod x.kind 5 = 0 := by simpa using h0
  refine brc_intro (fun h1 => ?_) (fun h1 => ?_)
  · have h1 : Int.tmod x.kind 5 = 1 := by simpa using h1
    have e : actP M x = growM M x.name x.b := by unfold actP; rw [if_neg h0, if_pos h1]
    rw [e]
    refine ⟨S, hT1.sep, x.name, l1, x.sb, l2, x.name, l1, x.sb, l2, ?_⟩
    refine (hT1.step (fun I Y' hI hY hDk => d58 hDk hI hg hm (by omega) (by omega) x.name (hx.b.mono fun c hc => hY c (List.mem_cons_of_mem _ hc))) (fun w' I Y' hI hY hRk => r120 hRk hI hg hm (by omega) (by omega) x.name (hx.b.mono fun c hc => hY c (List.mem_cons_of_mem _ hc)))).mono ?_
    rintro _ w2 ⟨rfl, hS2, hc⟩
    refine ⟨_, rfl, S, fun w hw => hw, hS2, hc.mono ?_⟩
    rintro _ w3 ⟨rfl, hT3⟩
    exact ⟨_, rfl, S, fun w hw => hw, hT3.sep, by simp, hX hT3⟩
  have h1 : ¬ Int.tmod x.kind 5 = 1 := by simpa using h1
  refine brc_intro (fun h2 => ?_) (fun h2 => ?_)
  · have h2 : Int.tmod x.kind 5 = 2 := by simpa using h2
    have e : actP M x = dropM M x.names := by unfold actP; rw [if_neg h0, if_neg h1, if_pos h2]
    rw [e]
    refine ⟨S, hT1.sep, x.sn, l3, x.sn, l3, ?_⟩
    refine (hT1.step (fun I Y' hI hY hDk => d67 hDk hg hm (by omega) (by omega) (hx.names.mono fun c hc => hY c (List.mem_cons_of_mem _ hc))) (fun w' I Y' hI hY hRk => r121 hRk hI hg hm (by omega) (by omega) (hx.names.mono fun c hc => hY c (List.mem_cons_of_mem _ hc)))).mono ?_
    rintro _ w2 ⟨rfl, hS2, hc⟩
    refine ⟨_, rfl, S, fun w hw => hw, hS2, hc.mono ?_⟩
    rintro _ w3 ⟨rfl, hT3⟩
    exact ⟨_, rfl, S, fun w hw => hw, hT3.sep, by simp, hX hT3⟩
  have h2 : ¬ Int.tmod x.kind 5 = 2 := by simpa using h2
  refine brc_intro (fun h3 => ?_) (fun h3 => ?_)
  · have h3 : Int.tmod x.kind 5 = 3 := by simpa using h3
    have e : actP M x = (0, M.crash x.wn x.wb) := by unfold actP; rw [if_neg h0, if_neg h1, if_neg h2, if_pos h3]
    rw [e]
    refine ⟨S, hT1.sep, x.wn, x.swb, l4, x.wn, x.swb, l4, ?_⟩
    refine (hT1.step (fun I Y' hI hY hDk => d45 hDk hI hfine x.wn (hx.wb.mono fun c hc => hY c (List.mem_cons_of_mem _ hc))) (fun w' I Y' hI hY hRk => r46 hRk hI hfine x.wn (hx.wb.mono fun c hc => hY c (List.mem_cons_of_mem _ hc)))).mono ?_
    rintro _ w2 ⟨rfl, hS2, hc⟩
    refine ⟨_, rfl, S, fun w hw => hw, hS2, hc.mono ?_⟩
    rintro _ w3 ⟨rfl, hT3⟩
    exact ⟨_, rfl, S, fun w hw => hw, hT3.sep, by simp, hX hT3⟩
  have h3 : ¬ Int.tmod x.kind 5 = 3 := by simpa using h3
  have e : actP M x = M.doom x.n := by unfold actP; rw [if_neg h0, if_neg h1, if_neg h2, if_neg h3]
  rw [e]
  refine ⟨S, hT1.sep, x.n, l6, x.n, l6, ?_⟩
  refine (hT1.step (fun I Y' hI hY hDk => d49 hDk x.n) (fun w' I Y' hI hY hRk => r59 hRk x.n)).mono ?_
  rintro _ w2 ⟨rfl, hS2, hc⟩
  refine ⟨_, rfl, S, fun w hw => hw, hS2, hc.mono ?_⟩
  rintro _ w3 ⟨rfl, hT3⟩
  exact ⟨_, rfl, S, fun w hw => hw, hT3.sep, by simp, hX hT3⟩

/-- same. -/
theorem k53 {E w : World} {L I : List Chunk} {M : MDisk} {D : DS} {R : RS} {d r n b : Nat} (hS : Sep E w (D.chunks M d ++ (R.chunks M r ++ L))) (hD : DRep D M I) (hR : RRep R M I) (hI : ∀ c ∈ I, c ∈ L) (hg : M.Good) (hm : M.Small n b) (hn : n ≤ 1000) (hb : b ≤ 100000) :
    Calls Pr 53 #[.pointer (some ⟨d, 0, none⟩), .pointer (some ⟨r, 0, none⟩)] w fun e w' => e = .returned (.bool true) ∧ Sep E w' L := by
  refine call53 ?_
  unfold ir53
  have hnl := small_now hg hm
  refine (k50 hm.left hS hD (by omega)).mono ?_
  rintro _ w1 ⟨s1, C1, rfl, hr1, hD1, hS1⟩
  refine ⟨s1, _, rfl, ?_⟩
  have hS1' : Sep E w1 (R.chunks M r ++ (D.chunks M.names.2.2 d ++ (C1 ++ L))) := hS1.weak (by intro f; simp only [ms_append, ms_cons, ms_nil]; omega)
  refine (k101 hS1' hR (fun c hc => by simp [hI c hc]) hg hm (by omega)).mono ?_
  rintro _ w2 ⟨s2, C2, R2, rfl, hr2, hR2, hS2⟩
  have hg1 := hg.names
  have hm1 := hm.names'
  have hkl : M.names.2.1.length ≤ 1000000000000 := by
    unfold MDisk.names
    split
    · exact Nat.zero_le _
    · have := small_now hg.ready hm.ready
      rw [List.length_map]
      omega
  generalize hM1 : M.names.2.2 = M1 at *
  generalize M.names.2.1 = ks at *
  have hks1 := RdG.size encK_ok hr1
  have hks := RdG.size encK_ok hr2
  refine ⟨s2, _, rfl, brc_false (by rw [hks1, hks]; simp) (brc_false (by simp) ?_)⟩
  have hS5' : Sep E w2 (D.chunks M1 d ++ (R2.chunks M1 r ++ (C2 ++ (C1 ++ ([] ++ L))))) := hS2.weak (by intro f; simp only [ms_append, ms_cons, ms_nil]; omega)
  clear hS hS1 hS1' hS2
  refine ⟨fun k σ w6 => ∃ (j : Nat) (M' : MDisk) (R' : RS) (G : List Chunk), j ≤ ks.length ∧ k = ks.length - j ∧ σ = ((j : Int), ()) ∧ M'.Good ∧ M'.Small n b ∧ DRep D M' I ∧ RRep R' M' I ∧ Sep E w6 (D.chunks M' d ++ (R'.chunks M' r ++ (C2 ++ (C1 ++ (G ++ L))))), ks.length, ⟨0, M1, R2, _, Nat.zero_le _, rfl, rfl, hg1, hm1, hD1, hR2, hS5'⟩, ?_⟩
  clear hM1 hS5' hg1 hm1 hD1 hR2
  rintro k σ w6 ⟨j, M', R', G, hj, rfl, rfl, hg', hm', hD', hR', hS6⟩ _
  dsimp only
  refine brc_intro (fun h => ?_) (fun h => ?_)
  · have h : j < ks.length := by simp at h; omega
    have hx : ks[j]? = some ks[j] := List.getElem?_eq_getElem h
    generalize ks[j] = x at hx
    obtain ⟨a, ha, _, hat⟩ := RdG.at_ encK_ok hr2 hx
    obtain ⟨a', ha', _, hat'⟩ := RdG.at_ encK_ok hr1 hx
    rw [ha]
    have l1 : At Pr w6 (loadVar 9 (a.add (j * 1))) (.string x) := by
      have := hat (j := 0) (v := .string x) (t := 9) rfl (by kernel_rfl) hS6 (fun c hc => by simp [hc])
      rwa [addA, Nat.add_zero] at this
    refine ⟨⟨by omega, by omega⟩, x, l1, ?_⟩
    refine (k28 hm'.left hS6 hD' (fun c hc => by simp [hI c hc]) x (fun f hf => by have := hm'.each f hf; omega)).mono ?_
    rintro _ w7 ⟨s3, C7, rfl, hr3, _, hD7, hS7⟩
    refine ⟨s3, _, rfl, ?_⟩
    have hS7' : Sep E w7 (R'.chunks M' r ++ (D.chunks (M'.read x).2.2 d ++ (C7 ++ (C2 ++ (C1 ++ (G ++ L)))))) := hS7.weak (by intro f; simp only [ms_append, ms_cons, ms_nil]; omega)
    refine (k64 hS7' hR' (fun c hc => by simp [hI c hc]) hg' hm' (by omega) (by omega) x).mono ?_
    rintro _ w8 ⟨s4, C8, R8, rfl, hr4, hR8, hS8⟩
    have l2 : At Pr w8 (loadVar 9 (a'.add (j * 1))) (.string x) := by
      have := hat' (j := 0) (v := .string x) (t := 9) rfl (by kernel_rfl) hS8 (fun c hc => by simp [hc])
      rwa [addA, Nat.add_zero] at this
    refine ⟨s4, _, rfl, ⟨by omega, by omega⟩, ?_⟩
    rw [ha']
    refine ⟨x, l2, brc_false (by rw [ba_eq_toList]; simp) ⟨_, hS8.toStr hr3 (fun c hc => by simp [hc]) u26' u9, _, hS8.toStr hr4 (fun c hc => by simp [hc]) u26' u9, brc_false (by rw [ba_eq_toList]; simp) (brc_false (by simp) ?_)⟩⟩
    exact ⟨ks.length - (j + 1), by omega, j + 1, (M'.read x).2.2, R8, C8 ++ (C7 ++ G), by omega, rfl, by rw [w64 (by omega) (by omega)]; rfl, hg'.read x, hm'.read x, hD7, hR8, hS8.weak (by intro f; simp only [ms_append, ms_cons, ms_nil]; omega)⟩
  · exact ⟨rfl, hS6.weak (by intro f; simp only [ms_append, ms_cons, ms_nil]; omega)⟩

end Go.Proofs.Ytonjaaljnjjjcaa

/- PlacePlays: the document's examples, and the whole; what its arguments are. Conditions: as each lemma says. -/
set_option linter.unusedVariables false
set_option linter.unusedSimpArgs false
namespace Go.Proofs.Ytonjaaljnjjjcaa
open Go Go.RowKit

def xN : ByteArray := ⟨#[120]⟩
def shP1 : MDisk := ((MDisk.new 100).doom 7).2
def shP2 : MDisk := (putM shP1 xN (List.replicate 70 0)).2
def shP3 : MDisk := shP2.syncNames.2
def shP4 : MDisk := shP3.crash 0 []
theorem shp_1 : ((MDisk.new 100).doom 7).1 = 0 := by kernel_rfl
theorem shp_2 : (putM shP1 xN (List.replicate 70 0)).1 = 0 := by kernel_rfl
theorem shp_3 : shP2.syncNames.1 = 40 := by kernel_rfl
theorem shp_4 : (shP4.read xN).1 = 0 := by kernel_rfl
theorem shp_5 : (shP4.read xN).2.1.length = 70 := by kernel_rfl
theorem shPg1 : shP1.Good := (MDisk.good_new 100).doom 7
theorem shPs1 : shP1.Small 0 0 := (MDisk.small_new 100).doom (by decide)
theorem shPg2 : shP2.Good := putM_good shPg1 _ _
theorem shPs2 : shP2.Small 3 70 := putM_small shPg1 shPs1 xN (List.replicate 70 0)
theorem shPg3 : shP3.Good := shPg2.syncNames
theorem shPs3 : shP3.Small 3 70 := shPs2.syncNames shPg2

/-- shown. -/
theorem k47 {E w : World} {L : List Chunk} (hS : Sep E w L) : Calls Pr 47 #[] w fun e w' => e = .returned (.bool true) ∧ Sep E w' L := by
  refine call47 ?_
  unfold ir47
  refine (d25 (I := []) hS 100).mono ?_
  rintro _ w1 ⟨d, rfl, hD1⟩
  refine ⟨_, rfl, brc_false rfl ?_⟩
  refine (d49 hD1 7).mono ?_
  rintro _ w2 ⟨rfl, hD2⟩
  rw [shp_1]
  refine ⟨0, rfl, brc_false rfl ?_⟩
  have hD2 : Dk E w2 shP1 d [] L := hD2
  obtain ⟨D, G, hDr, hS2⟩ := hD2
  obtain ⟨s3, w3, C3, h3, hr3, hS3⟩ := hS2.zeros 70 (by decide)
  refine ⟨s3, w3, h3, ?_⟩
  have hD3 : Dk E w3 shP1 d [] (C3 ++ L) := ⟨D, G, hDr, hS3.weak (by intro f; simp only [ms_append, ms_cons, ms_nil]; omega)⟩
  refine (d48 hD3 (fun c hc => by cases hc) shPg1 shPs1 (by decide) (by decide) xN (hr3.mono fun c hc => by simp [hc])).mono ?_
  rintro _ w4 ⟨rfl, hD4⟩
  rw [shp_2]
  refine ⟨0, rfl, brc_false rfl ?_⟩
  have hD4 : Dk E w4 shP2 d [] (C3 ++ L) := hD4
  refine (d55 hD4 ⟨shPg2, shPs2.mono (by decide) (by decide)⟩).mono ?_
  rintro _ w5 ⟨rfl, hD5⟩
  rw [shp_3]
  refine ⟨40, rfl, brc_false rfl ?_⟩
  have hD5 : Dk E w5 shP3 d [] (C3 ++ L) := hD5
  refine (d45 hD5 (fun c hc => by cases hc) ⟨shPg3, shPs3.mono (by decide) (by decide)⟩ 0 (sb := SV.nil) (ns := []) (RdS.none _ _)).mono ?_
  rintro _ w6 ⟨rfl, hD6⟩
  refine ⟨0, rfl, brc_false rfl ?_⟩
  have hD6 : Dk E w6 shP4 d [] (C3 ++ L) := hD6
  refine (d28 hD6 (fun c hc => by cases hc) ⟨shPg3.crash 0 [], (shPs3.crash 0 []).mono (by decide) (by decide)⟩ xN).mono ?_
  rintro _ w7 ⟨s7, C7, rfl, hr7, hD7⟩
  have h7 : s7.len = 70 := by rw [hr7.size]; exact shp_5
  rw [shp_4]
  exact ⟨s7, 0, rfl, brc_true (by rw [h7]; rfl) ⟨rfl, hD7.sep.weak (by intro f; simp only [ms_append, ms_cons, ms_nil]; omega)⟩⟩

/-- PlacePlays. -/
theorem k9 {E w : World} {L : List Chunk} (hS : Sep E w L) (room : Int) {s : SV} {l : List PAct} (hs : RdS L 7 s (l.flatMap encP)) (hn : l.length ≤ 9223372036854775807) (hl : ∀ x ∈ l, PActOk L x) (wn : Int) {sw : SV} {wl : List Int} (hw : RdS L 1 sw (wl.map intV)) :
    Calls Pr 9 #[.int .i64 room, .slice s.a s.len s.cap, .agg #[.int .i64 wn, .slice sw.a sw.len sw.cap]] w fun e w' => e = .returned (.bool true) ∧ Sep E w' L := by
  refine call9 ?_
  unfold ir9
  obtain ⟨q, w1, h1, hS1⟩ := hS.newVar (t := 63) (v := .agg #[intV wn, slV sw])
  let wC : Chunk := (q, .cells #[intV wn, slV sw] 63 (0, 0))
  have hS1 : Sep E w1 (wC :: L) := hS1
  refine ⟨_, w1, h1, ?_⟩
  refine (k47 hS1).mono ?_
  rintro _ w2 ⟨rfl, hS2⟩
  refine ⟨true, rfl, ?_⟩
  refine (k25 hS2 room).mono ?_
  rintro _ w3 ⟨d, D, rfl, hD, hS3⟩
  refine ⟨_, rfl, ?_⟩
  refine (k36 hS3 room).mono ?_
  rintro _ w4 ⟨R, r, rfl, hR, hS4⟩
  refine ⟨_, rfl, brc_false rfl ?_⟩
  refine (k51 hS4 hs (fun c hc => by simp [hc]) hn hl).mono ?_
  rintro _ w5 ⟨s1, l', C1, G1, rfl, ho, hl1, hl2, hS5⟩
  refine ⟨s1, rfl, ?_⟩
  have hsz := RdG.size encP_ok ho.rds
  let Y : List Chunk := C1 ++ (wC :: L)
  have hLY : ∀ c ∈ L, c ∈ Y := fun c hc => by simp [Y, hc]
  have hT5 : Two E w5 (MDisk.new room) d r Y := ⟨D, R, G1, hD.mono (fun c hc => by cases hc), hR.mono (fun c hc => by cases hc), hS5.weak (by intro f; simp only [Y, ms_append, ms_cons, ms_nil]; omega)⟩
  -- the acts
  refine ⟨fun k σ w => ∃ (j : Nat) (M : MDisk), j ≤ l'.length ∧ k = l'.length - j ∧ σ = ((j : Int), ()) ∧ M.Good ∧ M.Small (10 * j) (300 * j) ∧ Two E w M d r Y, l'.length,
    ⟨0, MDisk.new room, Nat.zero_le _, rfl, rfl, MDisk.good_new room, (MDisk.small_new room).mono (Nat.le_refl _) (Nat.zero_le _), hT5⟩, ?_⟩
  clear hS1 hS2 hS3 hS4 hS5 hT5 hD hR h1 D R
  rintro k σ w6 ⟨j, M, hj, rfl, rfl, hg, hm, hT⟩ _
  dsimp only
  refine brc_intro (fun h => ?_) (fun h => ?_)
  · have h : j < l'.length := by simp at h; omega
    have hx : l'[j]? = some l'[j] := List.getElem?_eq_getElem h
    have hxm : l'[j] ∈ l' := List.getElem_mem h
    generalize l'[j] = x at hx hxm
    obtain ⟨hxo, hxb, hxn⟩ := hl2 x hxm
    obtain ⟨a, ha, hat0, _⟩ := RdG.at_ encP_ok ho.rds hx
    rw [ha]
    refine ⟨⟨by omega, by omega⟩, x.kind, x.name, x.sb, x.sn, x.wn, x.swb, x.n, hat0 (t := 85) (by kernel_rfl) (by kernel_rfl) hT.sep (fun c hc => by simp [Y, hc]), ?_⟩
    obtain ⟨D, R, G, hD, hR, hS6⟩ := hT
    obtain ⟨y, w7, h7, hS7⟩ := hS6.alloc (t := 85) z85
    refine ⟨_, w7, h7, ?_⟩
    obtain ⟨w8, h8, hS8⟩ := Sep.store (cs := [.int .u8 0, .string ByteArray.empty, .slice none 0 0, .slice none 0 0, .int .i64 0, .slice none 0 0, .int .i64 0]) (o := 0) (n := 7) (v := .agg (encP x).toArray) (t := 85) hS7 (by kernel_rfl) rfl (by simp [encP, Value.cells]) (by simp [encP, Value.cells, Value.oneCell'])
    let X : Chunk := (y, .cells (encP x).toArray 85 (0, 0))
    have hS8 : Sep E w8 (X :: (D.chunks M d ++ (R.chunks M r ++ (G ++ Y)))) := hS8
    refine ⟨w8, h8, x.kind, x.name, x.sb, x.sn, x.wn, x.swb, x.n, hS8.loadS (b := y) (o := 0) (n := 7) List.mem_cons_self (by kernel_rfl) (by kernel_rfl) rfl (by simp [encP]), ?_⟩
    have hT8 : Two E w8 M d r Y := ⟨D, R, G, hD, hR, hS8.weak (by intro f; simp only [ms_append, ms_cons, ms_nil]; omega)⟩
    refine (k52 hT8 hg hm (by omega) (by omega) (hxo.mono hLY) hxb hxn).mono ?_
    rintro _ w9 ⟨rfl, hT9⟩
    exact ⟨true, rfl, brc_false rfl ⟨l'.length - (j + 1), by omega, j + 1, (actP M x).2, by omega, rfl, by rw [w64 (by omega) (by omega)]; rfl, actP_good hg x, (actP_small hg hm hxo.n hxn).mono (by omega) (by omega), hT9⟩⟩
  · have hfine : Fine M := ⟨hg, hm.mono (by omega) (by omega)⟩
    have mw : wC ∈ Y := by simp [Y]
    refine ⟨wn, sw, hT.sep.loadS (b := q) (o := 0) (n := 2) mw (by kernel_rfl) (by kernel_rfl) rfl (by simp), ?_⟩
    refine (hT.step (fun I Y' hI hY hDk => d45 hDk hI hfine wn (hw.mono fun c hc => hY c (hLY c hc))) (fun w' I Y' hI hY hRk => r46 hRk hI hfine wn (hw.mono fun c hc => hY c (hLY c hc)))).mono ?_
    rintro _ w10 ⟨rfl, hS10, hc⟩
    refine ⟨0, rfl, wn, sw, hS10.loadS (b := q) (o := 0) (n := 2) mw (by kernel_rfl) (by kernel_rfl) rfl (by simp), hc.mono ?_⟩
    rintro _ w11 ⟨rfl, D, R, G, hD, hR, hS11⟩
    refine ⟨0, rfl, brc_true rfl ?_⟩
    refine (k53 hS11 hD hR (fun c hc => hc) (hg.crash wn wl) (hm.crash wn wl) (by omega) (by omega)).mono ?_
    rintro _ w12 ⟨rfl, hS12⟩
    exact ⟨true, rfl, rfl, hS12.weak (by intro f; simp only [Y, ms_append, ms_cons, ms_nil]; omega)⟩

section
variable {H : Type} {enc : TypeId × Value → H} {w : World} {fuel : Nat} {x : DataW H × List MemPlace}
theorem u78 : Pr.underlying 78 = some (.slice 9) := by kernel_rfl
theorem u85 : Pr.underlying 85 = some (.struct (flds 85)) := by kernel_rfl
theorem c85 : Pr.cellsOf 85 = 7 := by kernel_rfl
theorem u82 : Pr.underlying 82 = some (.slice 85) := by kernel_rfl
theorem c78 : Pr.cellsOf 78 = 1 := by kernel_rfl

/-- Strings among the arguments. -/
theorem arg_strs {v : Value} (h : trod0 enc w fuel 78 [v] = some x) : ∃ (s : SV) (l : List ByteArray), v = .slice s.a s.len s.cap ∧ RdS (whole w) 1 s (l.flatMap encK) ∧ l.length ≤ maxLen := by
  obtain ⟨s, xs, rfl, hr, hm, hel⟩ := arg_slice u78 c9 (by decide) h
  have hlen := hr.len1
  obtain ⟨l, rfl, h1, _⟩ := arg_enc (P := fun _ => True) encK_ok hr fun i hi => by
    obtain ⟨n, y, hy⟩ := hel i hi
    have hi' : i < xs.length := by omega
    have e : (xs.drop (i * 1)).take 1 = [xs[i]] := by
      rw [Nat.mul_one, List.drop_eq_getElem_cons hi']
      rfl
    rw [e] at hy ⊢
    obtain ⟨k, hk, _⟩ := arg_str hy
    exact ⟨k, by rw [hk]; rfl, trivial⟩
  exact ⟨s, l, rfl, hr, by omega⟩

/-- An act among the arguments. -/
theorem arg_pact {cs : List Value} (h : trod0 enc w fuel 85 cs = some x) : ∃ a : PAct, cs = encP a ∧ PActOk (whole w) a := by
  obtain ⟨hl, n0, y0, h0⟩ := arg_field (i := 0) (ty := 5) (off := 0) u85 (by kernel_rfl) c5 h
  obtain ⟨_, n1, y1, h1⟩ := arg_field (i := 1) (ty := 9) (off := 1) u85 (by kernel_rfl) c9 h
  obtain ⟨_, n2, y2, h2⟩ := arg_field (i := 2) (ty := 26) (off := 2) u85 (by kernel_rfl) c26 h
  obtain ⟨_, n3, y3, h3⟩ := arg_field (i := 3) (ty := 78) (off := 3) u85 (by kernel_rfl) c78 h
  obtain ⟨_, n4, y4, h4⟩ := arg_field (i := 4) (ty := 63) (off := 4) u85 (by kernel_rfl) c63 h
  obtain ⟨_, n5, y5, h5⟩ := arg_field (i := 5) (ty := 3) (off := 6) u85 (by kernel_rfl) c3 h
  rw [c85] at hl
  obtain ⟨a, b, c, d, e, f, g, rfl⟩ := list7 hl
  obtain ⟨k, hk, _, _⟩ := DataW.trod_int u5 h0
  have hka : a = .int .u8 k := by injection hk
  obtain ⟨s1, hs1, _⟩ := arg_str h1
  obtain ⟨sb, lb, hsb, hb, _⟩ := arg_bytes h2
  obtain ⟨sn, ln, hsn, hn, _⟩ := arg_strs h3
  obtain ⟨wn, sw, lw, hcs, hw⟩ := arg_wreck h4
  obtain ⟨n, hn5, _, hn6⟩ := arg_int h5
  have hcs : [e, f] = [.int .i64 wn, slV sw] := hcs
  have hf : e = .int .i64 wn := by injection hcs
  have hg : f = slV sw := by
    injection hcs with _ hcs
    injection hcs
  rw [hka, hs1, hsb, hsn, hf, hg, hn5]
  exact ⟨⟨k, s1, sb, lb, sn, ln, wn, sw, lw, n⟩, rfl, hb, hn, hw, hn6⟩

/-- Acts among the arguments. -/
theorem arg_pacts {v : Value} (h : trod0 enc w fuel 82 [v] = some x) : ∃ (s : SV) (l : List PAct), v = .slice s.a s.len s.cap ∧ RdS (whole w) 7 s (l.flatMap encP) ∧ l.length ≤ maxLen ∧ ∀ a ∈ l, PActOk (whole w) a := by
  obtain ⟨s, xs, rfl, hr, hm, hel⟩ := arg_slice u82 c85 (by decide) h
  obtain ⟨l, rfl, h1, h2⟩ := arg_enc (P := PActOk (whole w)) encP_ok hr fun i hi => by
    obtain ⟨n, y, hy⟩ := hel i hi
    exact arg_pact hy
  exact ⟨s, l, rfl, hr, by omega, h2⟩
end

end Go.Proofs.Ytonjaaljnjjjcaa

set_option linter.unusedVariables false
set_option linter.unusedSimpArgs false
namespace Go.Proofs.Ytonjaaljnjjjcaa
open Go Go.ChangeShapes Go.WideShapes Go.ChangeAt Go.RowKit

theorem own0 : ownKnob Try.prog.godebug = none := by kernel_rfl
theorem laidOut0 : laidOutB Try.prog = true := by kernel_rfl

set_option maxRecDepth 100000 in
theorem placePlays_lifted (os : Os) (started : os.Started) (H : Type) (enc : TypeId × Value → H) :
    ReturnsInHanded {} Try.checked os 9 .any (Rows.placePlaysSpec.pre6 enc Try.prog Try.f9 Rows.placePlaysRow.domain false) (Rows.placePlaysSpec.post enc Try.prog Try.f9 false true false false) := by
  refine returnsInHanded_of_change (C := Try.checked) own0 started (by kernel_rfl) Try.func9
    (ChangeSpec.witness6 (enc := enc) (C := Try.checked) false ⟨#[], #[.int .i64 0, .slice none 0 0, .agg #[.int .i64 0, .slice none 0 0]], []⟩ 8 (by kernel_rfl) (by kernel_rfl) (by kernel_rfl) (by kernel_rfl)) ?_
  intro W base args ds gs before hval0 hW hcnd _
  have hW' := hW
  obtain ⟨p, q, hA0, hV, rfl, hfz, hnd⟩ := hW
  have hA : DataW.TrodAll enc Try.prog W 0 (fun _ => true) true Try.f9.params.toList args.toList ds p := hA0
  rw [Try.params9] at hA
  obtain ⟨v0, v1, v2, d0, d1, d2, p0, p1, p2, rfl, rfl, rfl, h0, h1, h2⟩ := trodAll_three hA
  obtain ⟨rfl, rfl⟩ := trodVars_none hV
  have hval : ∀ (j : Nat) t v, Try.f9.params[j]? = some t → #[v0, v1, v2][j]? = some v → Value.okWide Try.prog W .any base t v := hval0
  obtain ⟨room, rfl⟩ := okWide_int u3' (hval 0 3 v0 rfl rfl)
  obtain ⟨a0, len, cap, rfl⟩ := okWide_slice u82 (hval 1 82 v1 rfl rfl)
  obtain ⟨cs, rfl, hcs⟩ := okWide_struct u63 (hval 2 63 v2 rfl rfl)
  obtain ⟨f0, hf0⟩ := h0
  obtain ⟨f1, hf1⟩ := h1
  obtain ⟨f2, hf2⟩ := h2
  obtain ⟨s, l, hs, hr, hm, hl⟩ := arg_pacts (enc := enc) (w := W) (fuel := f1) (v := .slice a0 len cap) hf1
  obtain ⟨rfl, rfl, rfl⟩ := Value.slice.inj hs
  obtain ⟨wn, sw, wl, hcv, hw⟩ := arg_wreck (enc := enc) (w := W) (fuel := f2) hf2
  have hcs' : (Value.agg cs) = .agg #[.int .i64 wn, slV sw] := by
    have : cs.toList = [.int .i64 wn, slV sw] := hcv
    cases cs
    simp only at this
    rw [this]
  rw [hcs'] at hf2 hW' hA0 ⊢
  clear hval0 hval hs hcv hcs hcs'
  simp only [List.append_nil] at hW'
  have hlt : ∀ x ∈ p0 ++ p1 ++ p2, x.block < W.heap.size := fun x hx => by simpa using hW'.lt x hx
  refine (k9 (Sep.all W) room hr hm hl wn hw).mono fun e W' ⟨he, hS⟩ => ?_
  subst he
  have bel : Below W.heap.size W W' := hS.below fun f => Nat.le_refl _
  refine ⟨_, rfl, _, _, _, [], p0 ++ p1 ++ p2, [], hW', ?_, ?_, rfl, bel.frame _, fun h => by cases h⟩
  · exact trodAll_mk1 (shut_bool Try.underlying4 true)
  · have h3 := trodAll_mk3 (Below.trod laidOut0 (by kernel_rfl) (of_decide_eq_true (by kernel_rfl)) ⟨f0, hf0⟩ bel fun x hx => hlt x (by simp [hx])) (Below.trod laidOut0 (by kernel_rfl) (of_decide_eq_true (by kernel_rfl)) ⟨f1, hf1⟩ bel fun x hx => hlt x (by simp [hx])) (Below.trod laidOut0 (by kernel_rfl) (of_decide_eq_true (by kernel_rfl)) ⟨f2, hf2⟩ bel fun x hx => hlt x (by simp [hx]))
    rw [← List.append_assoc] at h3
    exact h3

theorem placePlays_holds : Rows.PlacePlaysSaid :=
  OpenClaim.holds_of_wide 9 Try.f9 rfl rfl rfl rfl rfl rfl rfl ⟨rfl, rfl, rfl, rfl, rfl⟩ rfl rfl rfl rfl rfl (by kernel_rfl) Try.func9 (by kernel_rfl)
    (of_decide_eq_true (by kernel_rfl)) (by unfold Func.isWrapper; rw [if_neg (of_decide_eq_false (by kernel_rfl))]; exact ⟨rfl, rfl⟩)
    (fun os started H enc _ => placePlays_lifted os started H enc)

#print axioms placePlays_holds
end Go.Proofs.Ytonjaaljnjjjcaa
