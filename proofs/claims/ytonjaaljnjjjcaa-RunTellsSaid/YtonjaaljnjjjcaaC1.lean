/- Contracts: bytes. Conditions: as each lemma says. -/
import Derived.Test.YtonjaaljnjjjcaaC0
import Derived.Test.YtonjaaljnjjjcaaI1
set_option linter.unusedVariables false
set_option linter.unusedSimpArgs false
namespace Go.Proofs.Ytonjaaljnjjjcaa
open Go Go.RowKit

/-- slices.Clone of bytes. -/
theorem k88 {E w : World} {L : List Chunk} {s : SV} {l : List UInt8} (hS : Sep E w L) (hr : RdB L s l) (hb : l.length ≤ 1099511627776) :
    Calls Pr 88 #[.slice s.a s.len s.cap] w fun e w' => ∃ (s' : SV) (C : List Chunk), e = .returned (.slice s'.a s'.len s'.cap) ∧ Own 5 1 s' (l.map byteV) C ∧ Sep E w' (C ++ L) := by
  refine call88 ?_
  unfold ir88
  have hsz := hr.size
  refine ⟨s.a.isNone, at_nilslice (T := 5) (by kernel_rfl) _ _ _ _, brc_intro (fun h => ?_) (fun h => ?_)⟩
  · have h0 : l = [] := List.eq_nil_of_length_eq_zero (by rw [← hsz]; exact hr.nil (by simpa using h))
    subst h0
    exact ⟨SV.nil, [], rfl, Own.nil _ _, hS⟩
  · obtain ⟨b, w1, h1, hS1⟩ := hS.buildSlice (t := 26) (T := 5) (len := 0) (parts := []) (vs := []) (by kernel_rfl) (by kernel_rfl)
    refine ⟨⟨some ⟨b, 0, none⟩, 0, 0⟩, w1, h1, ?_⟩
    have ho : Own 5 1 ⟨some ⟨b, 0, none⟩, 0, 0⟩ [] [(b, .cells #[] 5 (0, 0))] := Own.new (n := 0) rfl (Nat.zero_le _)
    obtain ⟨s', w2, C, h2, ho', _, hS2⟩ := Sep.append (ty := 26) tiB (L := [(b, .cells #[] 5 (0, 0))]) (F := L) hS1 ho ((hr.right [(b, .cells #[] 5 (0, 0))]).src hS1 fun c hc => hc) (byteV_one l) (by simp only [hsz]; omega) (by simp only [hsz]; unfold maxLen; omega)
    exact ⟨s', w2, h2, s', C, rfl, by simpa using ho', hS2⟩

/-- bytes.Equal. -/
theorem k81 {E w : World} {L : List Chunk} {s t : SV} {l m : List UInt8} (hS : Sep E w L) (hr : RdB L s l) (ht : RdB L t m) :
    Calls Pr 81 #[.slice s.a s.len s.cap, .slice t.a t.len t.cap] w fun e w' => e = .returned (.bool (decide (l = m))) ∧ Sep E w' L := by
  refine call81 ?_
  unfold ir81
  refine ⟨_, hS.toStr hr (fun c hc => hc) (by kernel_rfl) (by kernel_rfl), _, hS.toStr ht (fun c hc => hc) (by kernel_rfl) (by kernel_rfl), ?_, hS⟩
  rw [ba_eq_toList]
  congr 2
  rw [decide_eq_decide]
  exact strOf_inj

theorem at_cap {w : World} {t T ty : TypeId} (ht : Pr.underlying t = some (.slice T)) (a : Option Addr) (l c : Nat) : At Pr w (Builtin.cap_ #[t] ty #[.slice a l c]) (.int .i64 (c : Int)) := by
  unfold At
  simp [Builtin.cap_, run_underlying ht, goInt]

theorem grow_zero (w : World) (z : Value) (hz : z.cells.size = 1) (n : Nat) : (Builtin.zeroCells z.cells n).size = n := by simp [Builtin.zeroCells, hz]

/-- slices.Grow of nil. -/
theorem k140 {E w : World} {L : List Chunk} (hS : Sep E w L) {n : Nat} (hb : n ≤ 1099511627776) :
    Calls Pr 140 #[.slice none 0 0, .int .i64 (n : Int)] w fun e w' => ∃ (s' : SV) (C : List Chunk), e = .returned (.slice s'.a s'.len s'.cap) ∧ Own 5 1 s' [] C ∧ s'.len = 0 ∧ Sep E w' (C ++ L) := by
  refine call140 (x0 := SV.nil) ?_
  unfold ir140
  refine brc_false (by simp) ?_
  refine ⟨0, at_cap (T := 5) (by kernel_rfl) _ _ _, ?_⟩
  have hw : IntKind.wrap .i64 ((n : Int) - IntKind.wrap .i64 (0 - ((SV.nil.len : Nat) : Int))) = n := by
    show IntKind.wrap .i64 ((n : Int) - IntKind.wrap .i64 (0 - 0)) = n
    rw [w64 (n := 0 - 0) (by omega) (by omega), w64 (by omega) (by omega)]
    omega
  rw [hw]
  refine brc_intro (fun h => ?_) (fun h => ?_)
  · have h : 0 < n := by simpa using h
    obtain ⟨i, hi, hz, hsz, hby⟩ := info_parts tiB.info
    refine ⟨0, at_cap (T := 5) (by kernel_rfl) _ _ _, ⟨by omega, by simp⟩, ?_⟩
    have hrun := Lib.run_append_nil_zeros (P := Pr) w 26 3 26 5 i _ .i64 .i64 tiB.und (by kernel_rfl) hi hz n h (by omega) (by omega) (by rw [hby]; omega)
    refine ⟨⟨some ⟨w.heap.size, 0, none⟩, n, grownCap w n 0 5⟩, _, hrun, ⟨by show (0 : Int) ≤ 0; omega, by show (0 : Int) ≤ _; omega⟩, ?_⟩
    have hgc : n ≤ grownCap w n 0 5 := grownCap_ge w n 0 5
    have hgm : grownCap w n 0 5 ≤ maxLen := grownCap_le_maxLen w n 0 5 (by unfold maxLen; omega)
    refine ⟨⟨some ⟨w.heap.size, 0, none⟩, 0, grownCap w n 0 5⟩, _, ?_, ⟨rfl, .inr ⟨w.heap.size, _, rfl, rfl, Nat.zero_le _, hgm, ?_, by simp⟩⟩, rfl, hS.drew.push _⟩
    · rw [cutAt_zero]
      rfl
    · rw [Array.size_append, grow_zero w _ rfl, grow_zero w _ rfl]
      show n + (grownCap w n 0 5 - n) = grownCap w n 0 5 * 1
      omega
  · exact ⟨SV.nil, [], rfl, Own.nil _ _, rfl, hS⟩

theorem RdBs.at_ {I : List Chunk} {ss : List SV} {ls : List (List UInt8)} (h : RdBs I ss ls) {k : Nat} (hk : k < ls.length) : ∃ s l, ss[k]? = some s ∧ ls[k]? = some l ∧ RdB I s l ∧ ls.drop k = l :: ls.drop (k + 1) := by
  have hk' : k < ss.length := by rw [h.1]; exact hk
  exact ⟨ss[k], ls[k], by simp, by simp, h.2 k _ _ (by simp) (by simp), List.drop_eq_getElem_cons hk⟩

theorem flat_len_take (ls : List (List UInt8)) (k : Nat) : (ls.take k).flatten.length ≤ ls.flatten.length := by
  conv => rhs; rw [← List.take_append_drop k ls]
  rw [List.flatten_append, List.length_append]
  omega
theorem take_flat {ls : List (List UInt8)} {k : Nat} {l : List UInt8} (h : ls[k]? = some l) : (ls.take (k + 1)).flatten = (ls.take k).flatten ++ l := by
  rw [List.take_add_one, h]
  simp

/-- slices.Concat of bytes. -/
theorem k94 {E w : World} {L : List Chunk} {s : SV} {ss : List SV} {ls : List (List UInt8)} (hS : Sep E w L) (hr : RdS L 1 s (ss.map slV)) (hs : RdBs L ss ls) (hn : ls.length ≤ 1099511627776) (hb : ls.flatten.length ≤ 1099511627776) :
    Calls Pr 94 #[.slice s.a s.len s.cap] w fun e w' => ∃ (s' : SV) (C : List Chunk), e = .returned (.slice s'.a s'.len s'.cap) ∧ Own 5 1 s' (ls.flatten.map byteV) C ∧ Sep E w' (C ++ L) := by
  refine call94 ?_
  unfold ir94
  have hsz : s.len = ls.length := by rw [hr.len1, List.length_map, hs.1]
  refine ⟨fun n σ w1 => ∃ k : Nat, k ≤ ls.length ∧ n = ls.length - k ∧ σ = ((k : Int), (((ls.take k).flatten.length : Nat) : Int), ()) ∧ Sep E w1 L, ls.length, ⟨0, Nat.zero_le _, rfl, by simp, hS⟩, ?_⟩
  rintro n σ w1 ⟨k, hk, rfl, rfl, hS1⟩ _
  dsimp only
  refine brc_intro (fun h => ?_) (fun h => ?_)
  · have h : k < ls.length := by simp at h; omega
    obtain ⟨x, l, hx, hl, hrx, _⟩ := hs.at_ h
    obtain ⟨a, ha, hat⟩ := hr.idx (i := k) (v := slV x) (by simp [hx]) hS1 (fun c hc => hc) (t := 26) (by kernel_rfl)
    have hf := take_flat hl
    have hf' := flat_len_take ls (k + 1)
    have hw : IntKind.wrap .i64 ((((ls.take k).flatten.length : Nat) : Int) + ((x.len : Nat) : Int)) = (((ls.take (k + 1)).flatten.length : Nat) : Int) := by
      rw [hrx.size, hf, List.length_append, w64 (by omega) (by rw [hf, List.length_append] at hf'; omega)]
      omega
    refine ⟨⟨by omega, by omega⟩, ?_⟩
    rw [ha]
    refine ⟨x, by simpa using hat, ?_⟩
    rw [hw]
    refine brc_false (decide_eq_false (by omega)) ?_
    refine ⟨ls.length - (k + 1), by omega, k + 1, by omega, rfl, ?_, hS1⟩
    rw [w64 (by omega) (by omega)]
    rfl
  · have h : k = ls.length := by simp at h; omega
    subst h
    rw [List.take_length]
    refine (k140 hS1 hb).mono ?_
    rintro _ w2 ⟨s2, C, rfl, ho, hl0, hS2⟩
    refine ⟨s2, rfl, ?_⟩
    refine ⟨fun n σ w3 => ∃ (k : Nat) (C : List Chunk), k ≤ ls.length ∧ n = ls.length - k ∧ σ.1 = (k : Int) ∧ Own 5 1 σ.2.1 ((ls.take k).flatten.map byteV) C ∧ Sep E w3 (C ++ L), ls.length, ⟨0, C, Nat.zero_le _, rfl, rfl, by simpa using ho, hS2⟩, ?_⟩
    rintro n ⟨i, s3, u⟩ w3 ⟨k, C, hk, rfl, hi, ho, hS3⟩ _
    dsimp only at hi ho ⊢
    subst hi
    refine brc_intro (fun h => ?_) (fun h => ?_)
    · have h : k < ls.length := by simp at h; omega
      obtain ⟨x, l, hx, hl, hrx, _⟩ := hs.at_ h
      obtain ⟨a, ha, hat⟩ := hr.idx (i := k) (v := slV x) (by simp [hx]) hS3 (fun c hc => List.mem_append_right _ hc) (t := 26) (by kernel_rfl)
      have hf := take_flat hl
      have hf' := flat_len_take ls (k + 1)
      refine ⟨⟨by omega, by omega⟩, ?_⟩
      rw [ha]
      refine ⟨x, by simpa using hat, ?_⟩
      have hlen := ho.rds.len1
      rw [List.length_map] at hlen
      rw [hf, List.length_append] at hf'
      have hxs := hrx.size
      obtain ⟨s4, w4, C', h2, ho', _, hS4⟩ := Sep.append (ty := 26) tiB hS3 ho ((hrx.right C).src hS3 fun c hc => hc) (byteV_one l) (by rw [hlen, hxs]; omega) (by rw [hlen, hxs]; unfold maxLen; omega)
      refine ⟨s4, w4, h2, ls.length - (k + 1), by omega, k + 1, C', by omega, rfl, ?_, ?_, hS4⟩
      · rw [w64 (by omega) (by omega)]
        rfl
      · rw [hf, List.map_append]
        exact ho'
    · have h : k = ls.length := by simp at h; omega
      subst h
      rw [List.take_length] at ho
      exact ⟨s3, C, rfl, ho, hS3⟩

end Go.Proofs.Ytonjaaljnjjjcaa
