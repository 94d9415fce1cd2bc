/- rise. Conditions: as each lemma says. -/
import Derived.Test.YtonjaaljnjjjcaaK4
set_option linter.unusedVariables false
set_option linter.unusedSimpArgs false
namespace Go.Proofs.Ytonjaaljnjjjcaa
open Go Go.RowKit

theorem str_lt (l m : List UInt8) : Op.bytesLess (ByteArray.toList (strOf l)) (ByteArray.toList (strOf m)) = Op.bytesLess l m := by rw [toList_strOf, toList_strOf]

def riseStep (out : List (List UInt8)) (b : List UInt8) : List (List UInt8) := if b.length > 64 then out else insB b out

theorem fewL_len (ls : List (List UInt8)) : (fewL ls).length ≤ 60 := Nat.le_trans (List.length_filter_le _ _) (by simp; omega)

theorem riseFold_len : ∀ (l out : List (List UInt8)), (l.foldl riseStep out).length ≤ out.length + l.length
  | [], _ => Nat.le_refl _
  | b :: l, out => by
    have h1 := riseFold_len l (riseStep out b)
    have h2 : (riseStep out b).length ≤ out.length + 1 := by
      unfold riseStep
      split
      · omega
      · exact insB_len b out
    rw [List.foldl_cons, List.length_cons]
    omega

/-- rise. -/
theorem k26 {E w : World} {L I : List Chunk} {s : SV} {ls : List (List UInt8)} (hS : Sep E w L) (hr : RdL I s ls) (hI : ∀ c ∈ I, c ∈ L) (hb : ls.length ≤ 9223372036854775807) :
    Calls Pr 26 #[.slice s.a s.len s.cap] w fun e w' => ∃ (s' : SV) (ss : List SV) (C G : List Chunk), e = .returned (.slice s'.a s'.len s'.cap) ∧ OwnL s' ss (riseL ls) C I ∧ Sep E w' (C ++ (G ++ L)) := by
  refine call26 ?_
  unfold ir26
  refine (k61 hS hr hI hb).mono ?_
  rintro _ w1 ⟨s1, ss1, C1, G1, rfl, ho1, hS1⟩
  refine ⟨s1, rfl, ?_⟩
  have hfl := fewL_len ls
  have hf := ho1.size
  generalize hfe : fewL ls = fs at *
  refine ⟨fun n σ w2 => ∃ (k : Nat) (ss : List SV) (C G : List Chunk), k ≤ fs.length ∧ n = fs.length - k ∧ σ.1 = (k : Int) ∧ OwnL σ.2.1 ss ((fs.take k).foldl riseStep []) C I ∧ Sep E w2 (C ++ (G ++ ((C1 ++ G1) ++ L))), fs.length, ⟨0, [], [], [], Nat.zero_le _, rfl, rfl, ⟨Own.nil _ _, RdBs.nil I⟩, hS1.weak (by intro f; simp only [ms_append, ms_cons, ms_nil]; omega)⟩, ?_⟩
  rintro n ⟨i, o, u⟩ w2 ⟨k, ss, C, G, hk, rfl, hi, ho, hS2⟩ _
  dsimp only at hi ho ⊢
  subst hi
  refine brc_intro (fun h => ?_) (fun h => ?_)
  · have h : k < fs.length := by simp at h; omega
    obtain ⟨a, x, ha, hrx, hat⟩ := ho1.idxU h
    have hxs := hrx.size
    have hmem : ∀ c ∈ C1, c ∈ C ++ (G ++ ((C1 ++ G1) ++ L)) := fun c hc => by simp [hc]
    have hIm : ∀ c ∈ I, c ∈ C ++ (G ++ ((C1 ++ G1) ++ L)) := fun c hc => by simp [hI c hc]
    have hw : IntKind.wrap .i64 ((k : Int) + 1) = ((k + 1 : Nat) : Int) := by rw [w64 (by omega) (by omega)]; omega
    have ht : (fs.take (k + 1)).foldl riseStep [] = riseStep ((fs.take k).foldl riseStep []) fs[k] := by
      rw [List.take_add_one, List.getElem?_eq_getElem h, List.foldl_append]
      rfl
    have hlen : ((fs.take k).foldl riseStep []).length ≤ 60 := Nat.le_trans (riseFold_len _ _) (by have := List.length_take_le k fs; simp only [List.length_nil]; omega)
    rw [hw]
    refine ⟨⟨by omega, by omega⟩, ?_⟩
    rw [ha]
    refine ⟨x, by simpa using hat hS2 hmem, brc_intro (fun h1 => ?_) (fun h1 => ?_)⟩
    · have h1 : fs[k].length > 64 := by simp at h1; omega
      refine ⟨fs.length - (k + 1), by omega, k + 1, ss, C, G, by omega, rfl, rfl, ?_, hS2⟩
      rw [ht]
      unfold riseStep
      rw [if_pos h1]
      exact ho
    · have h1 : ¬ fs[k].length > 64 := by simp at h1; omega
      have hstep : riseStep ((fs.take k).foldl riseStep []) fs[k] = insB fs[k] ((fs.take k).foldl riseStep []) := by
        unfold riseStep
        rw [if_neg h1]
      rw [hstep] at ht
      have hol := ho.size
      have hoc := ho.own.rds.cap
      generalize hout : (fs.take k).foldl riseStep [] = out at *
      generalize hbe : fs[k] = b at *
      have hCm : ∀ c ∈ C, c ∈ C ++ (G ++ ((C1 ++ G1) ++ L)) := fun c hc => by simp [hc]
      generalize hLf : C ++ (G ++ ((C1 ++ G1) ++ L)) = Lf at *
      have fin : ∀ (j : Nat) (w3 : World), j ≤ out.length → Sep E w3 Lf → insB b out = out.take j ++ [b] ++ out.drop j → ∀ s9 w8 ss' C' G', OwnL s9 ss' (out.take j ++ [b] ++ out.drop j) C' I → Sep E w8 (C' ++ (G' ++ Lf)) →
          ∃ n', n' < fs.length - k ∧ ∃ (k' : Nat) (ss : List SV) (C G : List Chunk), k' ≤ fs.length ∧ n' = fs.length - k' ∧ ((k + 1 : Nat) : Int) = (k' : Int) ∧ OwnL s9 ss ((fs.take k').foldl riseStep []) C I ∧ Sep E w8 (C ++ (G ++ ((C1 ++ G1) ++ L))) := by
        intro j w3 hj hS3 he s9 w8 ss' C' G' ho9 hS8
        refine ⟨fs.length - (k + 1), by omega, k + 1, ss', C', G' ++ (C ++ G), by omega, rfl, rfl, ?_, hS8.weak (by rw [← hLf]; intro f; simp only [ms_append, ms_cons, ms_nil]; omega)⟩
        rw [ht, he]
        exact ho9
      have ins0 : ∀ j, j ≤ out.length → (∀ i (h : i < j) (h' : i < out.length), Op.bytesLess out[i] b = true) → (∀ h : j < out.length, Op.bytesLess out[j] b = false ∧ out[j] ≠ b) → insB b out = out.take j ++ [b] ++ out.drop j := by
        intro j hj hless hge
        rw [insB_at b out j hj hless fun h => (hge h).1]
        by_cases hjl : j < out.length
        · rw [dif_pos hjl, decide_eq_false (hge hjl).2]
          rfl
        · rw [dif_neg hjl]
          rfl
      have hoR : RdS Lf 1 o (ss.map slV) := ho.own.rds.mono hCm
      have hlen6 : out.length ≤ 1000000 := by omega
      refine ⟨fun n σ w3 => ∃ j : Nat, j ≤ out.length ∧ n = out.length - j ∧ σ = ((j : Int), ()) ∧ (∀ i (h : i < j) (h' : i < out.length), Op.bytesLess out[i] b = true) ∧ Sep E w3 Lf, out.length, ⟨0, Nat.zero_le _, rfl, rfl, fun i h => absurd h (Nat.not_lt_zero _), hS2⟩, ?_⟩
      rintro n σ w3 ⟨j, hj, rfl, rfl, hless, hS3⟩ _
      dsimp only
      refine ⟨fun w => Sep E w Lf, hS3.drew, brc_intro (fun h2 => ?_) (fun h2 => ?_)⟩
      · have h2 : j < out.length := by simp at h2; omega
        obtain ⟨a2, y, ea, hry, haty⟩ := ho.idxU h2
        refine ⟨⟨by omega, by omega⟩, ?_⟩
        rw [ea]
        refine ⟨y, fun w hw => haty hw hCm, _, fun w hw => hw.toStr hry hIm (by kernel_rfl) (by kernel_rfl), _, fun w hw => hw.toStr hrx hIm (by kernel_rfl) (by kernel_rfl), ?_⟩
        rw [str_lt]
        refine brc_intro (fun h3 => ?_) (fun h3 => ?_)
        · refine ⟨out.length - (j + 1), by omega, j + 1, by omega, rfl, by rw [w64 (by omega) (by omega)]; rfl, fun i hi hi' => ?_, hS3.drew⟩
          rcases Nat.lt_succ_iff_lt_or_eq.1 hi with hlt | rfl
          · exact hless i hlt hi'
          · exact h3
        · refine ⟨fun w => Sep E w Lf, hS3.drew.drew, brc_true (decide_eq_true (by omega)) ⟨⟨by omega, by omega⟩, ?_⟩⟩
          refine ⟨y, fun w hw => haty hw hCm, _, fun w hw => hw.toStr hry hIm (by kernel_rfl) (by kernel_rfl), _, fun w hw => hw.toStr hrx hIm (by kernel_rfl) (by kernel_rfl), ?_⟩
          rw [str_eq]
          refine brc_intro (fun h4 => ?_) (fun h4 => ?_)
          · have h4 : out[j] = b := of_decide_eq_true h4
            refine ⟨fs.length - (k + 1), by omega, k + 1, ss, C, G, by omega, rfl, rfl, ?_, by rw [hLf]; exact hS3.drew.drew⟩
            rw [ht, insB_at b out j hj hless fun _ => h3, dif_pos h2, decide_eq_true h4]
            exact ho
          · have h4 : out[j] ≠ b := of_decide_eq_false h4
            rw [← ea]
            exact ⟨fun _ => True, trivial, ⟨by omega, by omega⟩, ⟨by omega, by omega⟩, insOrders hS3.drew.drew.drew hoR ho.rds hrx hj hlen6 (fin j w3 hj hS3 (ins0 j hj hless fun _ => ⟨h3, h4⟩))⟩
      · have h2 : j = out.length := by simp at h2; omega
        exact ⟨fun _ => True, trivial, brc_false (decide_eq_false (by omega)) ⟨fun _ => True, trivial, ⟨by omega, by omega⟩, ⟨by omega, by omega⟩, insOrders hS3.drew.drew.drew hoR ho.rds hrx hj hlen6 (fin j w3 hj hS3 (ins0 j hj hless fun h => absurd h (by omega)))⟩⟩
  · have h : k = fs.length := by simp at h; omega
    subst h
    rw [List.take_length] at ho
    refine ⟨o, ss, C, G ++ (C1 ++ G1), rfl, ?_, hS2.weak (by intro f; simp only [ms_append, ms_cons, ms_nil]; omega)⟩
    unfold riseL
    rw [hfe]
    exact ho

end Go.Proofs.Ytonjaaljnjjjcaa
