/- Lists of lists of bytes: few, Same. Conditions: as each lemma says. -/
import Derived.Test.YtonjaaljnjjjcaaI2
import Derived.Test.YtonjaaljnjjjcaaC4
set_option linter.unusedVariables false
set_option linter.unusedSimpArgs false
namespace Go.Proofs.Ytonjaaljnjjjcaa
open Go Go.RowKit

/-- A slice of slices of bytes. -/
def RdL (I : List Chunk) (s : SV) (ls : List (List UInt8)) : Prop := ∃ ss : List SV, RdS I 1 s (ss.map slV) ∧ RdBs I ss ls

theorem RdL.mono {I I' : List Chunk} {s : SV} {ls : List (List UInt8)} (h : RdL I s ls) (hI : ∀ c ∈ I, c ∈ I') : RdL I' s ls := by
  obtain ⟨ss, h1, h2⟩ := h
  exact ⟨ss, h1.mono hI, h2.mono hI⟩
theorem RdL.size {I : List Chunk} {s : SV} {ls : List (List UInt8)} (h : RdL I s ls) : s.len = ls.length := by
  obtain ⟨ss, h1, h2⟩ := h
  rw [h1.len1, List.length_map, h2.1]
theorem RdL.right {I : List Chunk} {s : SV} {ls : List (List UInt8)} (h : RdL I s ls) (C : List Chunk) : RdL (C ++ I) s ls := h.mono fun c hc => List.mem_append_right _ hc
theorem RdL.none (I : List Chunk) : RdL I SV.nil [] := ⟨[], RdS.none I 1, RdBs.nil I⟩

/-- An element, read. -/
theorem RdL.idx {I : List Chunk} {s : SV} {ls : List (List UInt8)} (h : RdL I s ls) {k : Nat} (hk : k < ls.length) {E w : World} {L : List Chunk} (hS : Sep E w L) (hI : ∀ c ∈ I, c ∈ L) :
    ∃ a x, s.a = some a ∧ At Pr w (loadVar 26 (a.add (k * 1))) (.slice x.a x.len x.cap) ∧ RdB I x ls[k] := by
  obtain ⟨ss, h1, h2⟩ := h
  obtain ⟨x, l, hx, hl, hr, _⟩ := h2.at_ hk
  obtain ⟨a, ha, hat⟩ := h1.idx (i := k) (v := slV x) (by simp [hx]) hS hI (t := 26) (by kernel_rfl)
  have : l = ls[k] := by
    rw [List.getElem?_eq_getElem hk] at hl
    simpa using hl.symm
  subst this
  exact ⟨a, x, ha, hat, hr⟩

theorem RdS.idxU {I : List Chunk} {s : SV} {xs : List Value} (h : RdS I 1 s xs) {i : Nat} {v : Value} (hv : xs[i]? = some v) {t : TypeId} (ht : oneT Pr t = true) :
    ∃ a, s.a = some a ∧ ∀ {E w : World} {L : List Chunk}, Sep E w L → (∀ c ∈ I, c ∈ L) → At Pr w (loadVar t (a.add (i * 1))) v := by
  cases ha : s.a with
  | none =>
    have h0 := h.nil ha
    have h1 := h.len1
    have : i < xs.length := (List.getElem?_eq_some_iff.1 hv).1
    omega
  | some a =>
    refine ⟨a, rfl, fun hS hI => ?_⟩
    obtain ⟨b, hb, hat⟩ := h.idx hv hS hI ht
    have e : a = b := Option.some.inj (ha.symm.trans hb)
    rw [e]
    exact hat

/-- An element, read in whatever world. -/
theorem RdL.idxU {I : List Chunk} {s : SV} {ls : List (List UInt8)} (h : RdL I s ls) {k : Nat} (hk : k < ls.length) :
    ∃ a x, s.a = some a ∧ RdB I x ls[k] ∧ ∀ {E w : World} {L : List Chunk}, Sep E w L → (∀ c ∈ I, c ∈ L) → At Pr w (loadVar 26 (a.add (k * 1))) (.slice x.a x.len x.cap) := by
  obtain ⟨ss, h1, h2⟩ := h
  obtain ⟨x, l, hx, hl, hr, _⟩ := h2.at_ hk
  obtain ⟨a, ha, hat⟩ := h1.idxU (i := k) (v := slV x) (by simp [hx]) (t := 26) (by kernel_rfl)
  have : l = ls[k] := by
    rw [List.getElem?_eq_getElem hk] at hl
    simpa using hl.symm
  subst this
  exact ⟨a, x, ha, hr, hat⟩

/-- Lists of lists, owned. -/
structure OwnL (s : SV) (ss : List SV) (ls : List (List UInt8)) (C I : List Chunk) : Prop where
  own : Own 26 1 s (ss.map slV) C
  rds : RdBs I ss ls

theorem OwnL.size {s : SV} {ss : List SV} {ls : List (List UInt8)} {C I : List Chunk} (h : OwnL s ss ls C I) : s.len = ls.length := by
  rw [h.own.rds.len1, List.length_map, h.rds.1]
theorem OwnL.rdl {s : SV} {ss : List SV} {ls : List (List UInt8)} {C I : List Chunk} (h : OwnL s ss ls C I) : RdL (C ++ I) s ls := ⟨ss, h.own.rdl I, h.rds.mono fun c hc => List.mem_append_right _ hc⟩

/-- An element of an owned list of lists. -/
theorem OwnL.idxU {s : SV} {ss : List SV} {ls : List (List UInt8)} {C I : List Chunk} (h : OwnL s ss ls C I) {k : Nat} (hk : k < ls.length) :
    ∃ a x, s.a = some a ∧ RdB I x ls[k] ∧ ∀ {E w : World} {L : List Chunk}, Sep E w L → (∀ c ∈ C, c ∈ L) → At Pr w (loadVar 26 (a.add (k * 1))) (.slice x.a x.len x.cap) := by
  obtain ⟨x, l, hx, hl, hr, _⟩ := h.rds.at_ hk
  obtain ⟨a, ha, hat⟩ := h.own.rds.idxU (i := k) (v := slV x) (by simp [hx]) (t := 26) (by kernel_rfl)
  have : l = ls[k] := by
    rw [List.getElem?_eq_getElem hk] at hl
    simpa using hl.symm
  subst this
  exact ⟨a, x, ha, hr, hat⟩

/-- One more behind a list of lists. -/
theorem Sep.push1 {E w : World} {C L I : List Chunk} {s x : SV} {ss : List SV} {ls : List (List UInt8)} {l : List UInt8} (hS : Sep E w (C ++ L)) (ho : OwnL s ss ls C I) (hx : RdB I x l) (hb : ls.length ≤ 1000000000000) :
    ∃ (s2 : SV) (w2 : World), Sem.run Pr (Instr.buildSlice 22 1 #[(0, .slice x.a x.len x.cap)]) w = .ok (.slice s2.a s2.len s2.cap) w2 ∧
      ∃ (s3 : SV) (w3 : World) (C' G : List Chunk), Sem.run Pr (Builtin.append_ #[22, 22] 22 #[.slice s.a s.len s.cap, .slice s2.a s2.len s2.cap]) w2 = .ok (.slice s3.a s3.len s3.cap) w3 ∧ OwnL s3 (ss ++ [x]) (ls ++ [l]) C' I ∧ Sep E w3 (C' ++ (G ++ L)) := by
  obtain ⟨s2, w2, G, h2, ho2, hS2⟩ := hS.litBs (n := 1) (parts := [(0, .slice x.a x.len x.cap)]) (ss := [x]) rfl (by omega) (by kernel_rfl)
  have hS2' : Sep E w2 (C ++ (G ++ L)) := hS2.weak (by intro f; simp only [ms_append, ms_cons, ms_nil]; omega)
  have hl := ho.size
  have hl2 : s2.len = 1 := by
    have := ho2.rds.len1
    simpa using this
  obtain ⟨s3, w3, C', h3, ho3, _, hS3⟩ := Sep.append (ty := 22) tiBB hS2' ho.own (ho2.rds.src hS2' fun c hc => by simp [hc]) (slV_one [x]) (by rw [hl, hl2]; omega) (by rw [hl, hl2]; unfold maxLen; omega)
  exact ⟨s2, w2, h2, s3, w3, C', G, h3, ⟨by rw [List.map_append]; exact ho3, ho.rds.append ((RdBs.nil I).cons hx)⟩, hS3⟩

def fewL (ls : List (List UInt8)) : List (List UInt8) := (ls.take 60).filter fun l => decide (l.length ≤ 80)

theorem fewL_step {ls : List (List UInt8)} {k : Nat} (h : k < ls.length) : fewL (ls.take (k + 1)) = if k < 60 ∧ ls[k].length ≤ 80 then fewL (ls.take k) ++ [ls[k]] else fewL (ls.take k) := by
  unfold fewL
  have ht : ls.take (k + 1) = ls.take k ++ [ls[k]] := by rw [List.take_add_one]; simp [h]
  have hlen : (ls.take k).length = k := by simp; omega
  rw [ht]
  by_cases hk : k < 60
  · rw [List.take_of_length_le (l := ls.take k ++ [ls[k]]) (by simp; omega), List.take_of_length_le (l := ls.take k) (i := 60) (by omega), List.filter_append]
    by_cases hl : ls[k].length ≤ 80
    · simp [hk, hl]
    · simp [hl]
  · rw [List.take_append_of_le_length (by omega)]
    simp [hk]

/-- few. -/
theorem k61 {E w : World} {L I : List Chunk} {s : SV} {ls : List (List UInt8)} (hS : Sep E w L) (hr : RdL I s ls) (hI : ∀ c ∈ I, c ∈ L) (hb : ls.length ≤ 9223372036854775807) :
    Calls Pr 61 #[.slice s.a s.len s.cap] w fun e w' => ∃ (s' : SV) (ss : List SV) (C G : List Chunk), e = .returned (.slice s'.a s'.len s'.cap) ∧ OwnL s' ss (fewL ls) C I ∧ Sep E w' (C ++ (G ++ L)) := by
  refine call61 ?_
  unfold ir61
  have hsz := hr.size
  refine ⟨fun n σ w3 => ∃ (k : Nat) (ss : List SV) (C G : List Chunk), k ≤ ls.length ∧ n = ls.length - k ∧ σ.1 = (k : Int) ∧ OwnL σ.2.1 ss (fewL (ls.take k)) C I ∧ Sep E w3 (C ++ (G ++ L)), ls.length, ⟨0, [], [], [], Nat.zero_le _, rfl, rfl, ⟨Own.nil _ _, by simpa [fewL] using RdBs.nil I⟩, hS⟩, ?_⟩
  rintro n ⟨i, s3, u⟩ w3 ⟨k, ss, C, G, hk, rfl, hi, ho, hS3⟩ _
  dsimp only at hi ho ⊢
  subst hi
  refine brc_intro (fun h => ?_) (fun h => ?_)
  · have h : k < ls.length := by simp at h; omega
    obtain ⟨a, x, ha, hat, hrx⟩ := hr.idx h hS3 (fun c hc => by simp [hI c hc])
    have hxs := hrx.size
    have hf := fewL_step h
    have hw : IntKind.wrap .i64 ((k : Int) + 1) = ((k + 1 : Nat) : Int) := by rw [w64 (by omega) (by omega)]; omega
    rw [hw]
    refine ⟨⟨by omega, by omega⟩, ?_⟩
    rw [ha]
    refine ⟨x, by simpa using hat, brc_intro (fun h1 => ?_) (fun h1 => ?_)⟩
    · have h1 : k < 60 := by simp at h1; omega
      refine brc_intro (fun h2 => ?_) (fun h2 => ?_)
      · have h2 : ls[k].length ≤ 80 := by simp at h2; omega
        have hfl : (fewL (ls.take k)).length ≤ 60 := Nat.le_trans (List.length_filter_le _ _) (by simp; omega)
        obtain ⟨s4, w4, h4, s5, w5, C5, G5, h5, ho5, hS5⟩ := hS3.push1 ho hrx (by omega)
        refine ⟨s4, w4, h4, s5, w5, h5, ls.length - (k + 1), by omega, k + 1, ss ++ [x], C5, G5 ++ G, by omega, rfl, rfl, ?_, by rw [List.append_assoc]; exact hS5⟩
        rw [hf, if_pos ⟨h1, h2⟩]
        exact ho5
      · have h2 : ¬ ls[k].length ≤ 80 := by simp at h2; omega
        refine ⟨ls.length - (k + 1), by omega, k + 1, ss, C, G, by omega, rfl, rfl, ?_, hS3⟩
        rw [hf, if_neg fun e => h2 e.2]
        exact ho
    · have h1 : ¬ k < 60 := by simp at h1; omega
      refine ⟨ls.length - (k + 1), by omega, k + 1, ss, C, G, by omega, rfl, rfl, ?_, hS3⟩
      rw [hf, if_neg fun e => h1 e.1]
      exact ho
  · have h : k = ls.length := by simp at h; omega
    subst h
    rw [List.take_length] at ho
    exact ⟨s3, ss, C, G, rfl, ho, hS3⟩

end Go.Proofs.Ytonjaaljnjjjcaa
