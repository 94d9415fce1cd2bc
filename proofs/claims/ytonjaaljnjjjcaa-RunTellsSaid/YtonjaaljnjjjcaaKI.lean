/- RunTells: the reader read one by one, in plain Lean; Open. Conditions: as each lemma says. -/
import Derived.Test.YtonjaaljnjjjcaaKH
import Derived.Test.YtonjaaljnjjjcaaKF
set_option linter.unusedVariables false
set_option linter.unusedSimpArgs false
namespace Go.Proofs.Ytonjaaljnjjjcaa
open Go Go.RowKit

theorem goL_len : ∀ (fs : List (List UInt8)) (o : Option (List UInt8)) (t : Bool), (goL o fs t).length ≤ fs.length + 1
  | [], _, t => by cases t <;> simp [goL]
  | x :: fs, o, t => by
    simp only [goL]
    split
    · have := goL_len fs (some x) t
      simp; omega
    · simp
theorem recsR_len (l : List UInt8) (o : Option (List UInt8)) : (recsR ⟨l, o, false⟩).length ≤ l.length + 1 := by
  rw [← goL_recs]
  have h1 := goL_len (allF l).1 o (decide ((allF l).2 < l.length))
  have h2 := allF_len l
  omega

theorem MRd.next_not {r : MRd} (h : r.next.1.2.1 = false) : r.next.1.1 = [] ∧ ((r.next.1.2.2 = 6 ∧ r.next.2.bad = true) ∨ (r.next.1.2.2 = 0 ∧ r.next.2.bad = false ∧ r.bad = false)) := by
  unfold MRd.next at *
  split
  · rename_i h1
    exact ⟨rfl, .inl ⟨rfl, h1⟩⟩
  · rename_i h1
    split
    · exact ⟨rfl, .inr ⟨rfl, by simpa using h1, by simpa using h1⟩⟩
    · rename_i h2
      split
      · rename_i h3
        rw [if_neg h1, if_neg h2, if_pos h3] at h
        cases h
      · exact ⟨rfl, .inl ⟨rfl, rfl⟩⟩
theorem MRd.next_bad {r : MRd} (h : r.bad = true) : r.next = (([], false, 6), r) := by
  unfold MRd.next
  rw [if_pos h]
theorem MRd.next_good {r : MRd} (h : r.next.1.2.1 = true) : r.next.2.bad = false := by
  unfold MRd.next at *
  split
  · rename_i h1
    rw [if_pos h1] at h
    cases h
  · rename_i h1
    split
    · rename_i h2
      rw [if_neg h1, if_pos h2] at h
      cases h
    · rename_i h2
      split
      · rfl
      · rename_i h3
        rw [if_neg h1, if_neg h2, if_neg h3] at h
        cases h
theorem MRd.next_le (r : MRd) : r.next.2.rest.length ≤ r.rest.length := by
  unfold MRd.next
  split
  · exact Nat.le_refl _
  · split
    · exact Nat.le_refl _
    · split
      · simp
      · exact Nat.le_refl _

/-- Where the reader stands behind so many of the records. -/
structure StR (recs : List Rec1) (i : Nat) (r : MRd) : Prop where
  le : i ≤ recs.length
  bad : r.bad = true → i = recs.length ∧ 0 < i ∧ (recs[i - 1]?).map (·.2) = some 6
  good : r.bad = false → recs.drop i = recsR r ∧ (0 < i → (recs[i - 1]?).map (·.2) = some 0)

theorem StR.step {recs : List Rec1} {i : Nat} {r : MRd} (h : StR recs i r) (hi : i < recs.length) :
    r.next.1.1 = recs[i].1 ∧ r.next.1.2.2 = recs[i].2 ∧ r.next.1.2.1 = (recs[i].2 == 0) ∧ StR recs (i + 1) r.next.2 := by
  have hb : r.bad = false := by
    cases hb : r.bad with
    | false => rfl
    | true => have := (h.bad hb).1; omega
  obtain ⟨hd, _⟩ := h.good hb
  rw [List.drop_eq_getElem_cons hi, recsR_eq] at hd
  unfold recsF at hd
  cases hk : r.next.1.2.1 with
  | true =>
    rw [hk, if_pos rfl] at hd
    obtain ⟨h1, h2⟩ := List.cons.inj hd
    obtain ⟨h0, _⟩ := MRd.next_ok hk
    rw [h1]
    refine ⟨rfl, rfl, by simp [h0], hi, fun hb' => ?_, fun _ => ⟨h2, fun _ => ?_⟩⟩
    · rw [MRd.next_good hk] at hb'; cases hb'
    · rw [Nat.add_sub_cancel, List.getElem?_eq_getElem hi, h1]
      simp [h0]
  | false =>
    rw [hk, if_neg (by simp)] at hd
    obtain ⟨hB, h6 | h6⟩ := MRd.next_not hk
    · rw [if_pos (by rw [h6.1]; decide)] at hd
      obtain ⟨h1, h2⟩ := List.cons.inj hd
      rw [h1]
      refine ⟨rfl, rfl, by simp [h6.1], hi, fun _ => ⟨?_, by omega, ?_⟩, fun hb' => by rw [h6.2] at hb'; cases hb'⟩
      · have := congrArg List.length h2
        simp at this
        omega
      · rw [Nat.add_sub_cancel, List.getElem?_eq_getElem hi, h1]
        simp [h6.1]
    · rw [if_neg (by rw [h6.1]; decide)] at hd
      cases hd

theorem StR.last {recs : List Rec1} {r : MRd} (h : StR recs recs.length r) : r.next.1.1 = [] ∧ r.next.1.2.1 = false ∧ (∀ h0 : 0 < recs.length, r.next.1.2.2 = recs[recs.length - 1].2) ∧ (recs.length = 0 → r.next.1.2.2 = 0) := by
  cases hb : r.bad with
  | true =>
    obtain ⟨_, h0, h6⟩ := h.bad hb
    rw [MRd.next_bad hb]
    refine ⟨rfl, rfl, fun h0 => ?_, fun he => by omega⟩
    rw [List.getElem?_eq_getElem (by omega)] at h6
    simpa using h6.symm
  | false =>
    obtain ⟨hd, h6⟩ := h.good hb
    rw [List.drop_of_length_le (Nat.le_refl _), recsR_eq] at hd
    unfold recsF at hd
    cases hk : r.next.1.2.1 with
    | true =>
      rw [hk, if_pos rfl] at hd
      cases hd
    | false =>
      rw [hk, if_neg (by simp)] at hd
      obtain ⟨hB, h7 | h7⟩ := MRd.next_not hk
      · rw [if_pos (by rw [h7.1]; decide)] at hd
        cases hd
      · refine ⟨hB, rfl, fun h0 => ?_, fun _ => h7.1⟩
        have := h6 h0
        rw [List.getElem?_eq_getElem (by omega)] at this
        rw [h7.1]
        simpa using this.symm

/-- Open. -/
theorem k34 {E w : World} {L I : List Chunk} {M : MDisk} {D : DS} {d : Nat} (hl : M.left ≤ 9223372036854775807) (hS : Sep E w (D.chunks M d ++ L)) (hD : DRep D M I) (hI : ∀ c ∈ I, c ∈ L) (n : ByteArray) (hb : ∀ f ∈ M.files, f.bytes.length ≤ 1099511627776) :
    Calls Pr 34 #[.pointer (some ⟨d, 0, none⟩), .string n] w fun e w' => ∃ (s : SV) (C : List Chunk), RdB C s (M.read n).2.1 ∧ DRep D (M.read n).2.2 I ∧
      (((M.read n).1 ≠ 0 ∧ e = .returned (.tuple #[.pointer none, .int .i64 (M.read n).1]) ∧ Sep E w' (D.chunks (M.read n).2.2 d ++ (C ++ L))) ∨
       ((M.read n).1 = 0 ∧ ∃ b, e = .returned (.tuple #[.pointer (some ⟨b, 0, none⟩), .int .i64 0]) ∧ Sep E w' (rChunk b s SV.nil false false :: (D.chunks (M.read n).2.2 d ++ (C ++ L))))) := by
  refine call34 ?_
  unfold ir34
  refine (k28 hl hS hD hI n hb).mono ?_
  rintro _ w1 ⟨s, C, rfl, hr, _, hD1, hS1⟩
  refine ⟨s, _, rfl, brc_intro (fun h => ?_) (fun h => ?_)⟩
  · have h : (M.read n).1 ≠ 0 := by simpa using h
    exact ⟨s, C, hr, hD1, .inl ⟨h, rfl, hS1⟩⟩
  · have h : (M.read n).1 = 0 := by simpa using h
    obtain ⟨b, w2, h2, hS2⟩ := hS1.newVar (t := 130) (v := .agg #[slV s, .slice none 0 0, .bool false, .bool false])
    exact ⟨_, w2, h2, s, C, hr, hD1, .inr ⟨h, b, rfl, hS2⟩⟩

/-! ### A disk with one file -/
def oneM (room : Nat) (n : ByteArray) (b : List UInt8) : MDisk := ⟨[⟨b, 0⟩], [(n, 0)], [], [⟨noName, n, 0⟩], room, false, false, 0⟩
theorem oneM_find (room : Nat) (n : ByteArray) (b : List UInt8) : (oneM room n b).find n = (0, some 0, oneM room n b) := by
  have hfn : findN n (oneM room n b).now = some 0 := by simp [findN, oneM]
  unfold MDisk.find
  rw [if_neg (by show ¬ (0 : Int) ≠ 0; simp)]
  show (match findN n (oneM room n b).now with | none => _ | some i => _) = _
  rw [hfn]
  rfl
theorem oneM_read (room : Nat) (n : ByteArray) (b : List UInt8) : (oneM room n b).read n = (0, b, oneM room n b) := by
  unfold MDisk.read
  rw [oneM_find]
  rfl
theorem oneM_append {room : Nat} {n : ByteArray} (hn : n ≠ noName) {b c : List UInt8} (h : b.length + c.length ≤ room) : (oneM room n b).append n c = (0, oneM room n (b ++ c)) := by
  have hu : (oneM room n b).used = b.length := by
    show (if _ then _ else 0) + 0 = _
    rw [if_pos (by simp [MDisk.holds, oneM, hn])]
    rfl
  unfold MDisk.append
  rw [oneM_find]
  simp only [hu]
  rw [if_neg (by show ¬ _ > room; omega)]
  rfl
theorem oneM_fit (room : Nat) (n : ByteArray) (b : List UInt8) : (oneM room n b).Fit (b.length + 2) := ⟨by simp [oneM], by simp [MDisk.total, ms, oneM], by simp [oneM]⟩
theorem oneM_create (room : Nat) : (MDisk.new room).create ⟨#[120]⟩ = (0, oneM room ⟨#[120]⟩ []) := rfl

end Go.Proofs.Ytonjaaljnjjjcaa
