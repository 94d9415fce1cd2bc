/- rise. Conditions: as each lemma says. -/
import Derived.Test.YtonjaaljnjjjcaaK3
set_option linter.unusedVariables false
set_option linter.unusedSimpArgs false
namespace Go.Proofs.Ytonjaaljnjjjcaa
open Go Go.RowKit

theorem RdBs.take {I : List Chunk} {ss : List SV} {ls : List (List UInt8)} (h : RdBs I ss ls) (k : Nat) : RdBs I (ss.take k) (ls.take k) :=
  ⟨by simp [h.1], fun i s l h1 h2 => by
    rw [List.getElem?_take] at h1 h2
    split at h1
    · rename_i hi
      rw [if_pos hi] at h2
      exact h.2 i s l h1 h2
    · cases h1⟩
theorem RdBs.drop {I : List Chunk} {ss : List SV} {ls : List (List UInt8)} (h : RdBs I ss ls) (k : Nat) : RdBs I (ss.drop k) (ls.drop k) :=
  ⟨by simp [h.1], fun i s l h1 h2 => by
    rw [List.getElem?_drop] at h1 h2
    exact h.2 _ s l h1 h2⟩

/-- 'append(s, x...)' of slices of slices of bytes, s owned. -/
theorem Sep.appL {E w : World} {C L I : List Chunk} {s x : SV} {ss xs : List SV} {ls ms : List (List UInt8)} (hS : Sep E w (C ++ L)) (ho : OwnL s ss ls C I) (hx : RdS L 1 x (xs.map slV)) (hm : RdBs I xs ms) (hb : ls.length + ms.length ≤ 1000000000000) :
    ∃ (s3 : SV) (w3 : World) (C' : List Chunk), Sem.run Pr (Builtin.append_ #[22, 22] 22 #[.slice s.a s.len s.cap, .slice x.a x.len x.cap]) w = .ok (.slice s3.a s3.len s3.cap) w3 ∧ OwnL s3 (ss ++ xs) (ls ++ ms) C' I ∧ Sep E w3 (C' ++ L) := by
  have hl := ho.size
  have hl2 : x.len = ms.length := by rw [hx.len1, List.length_map, hm.1]
  obtain ⟨s3, w3, C', h3, ho3, _, hS3⟩ := Sep.append (ty := 22) tiBB hS ho.own (hx.src hS fun c hc => List.mem_append_right _ hc) (slV_one xs) (by rw [hl, hl2]; omega) (by rw [hl, hl2]; unfold maxLen; omega)
  exact ⟨s3, w3, C', h3, ⟨by rw [List.map_append]; exact ho3, ho.rds.append hm⟩, hS3⟩

theorem Sep.lit0 {E w : World} {L : List Chunk} (hS : Sep E w L) (I : List Chunk) : ∃ (s : SV) (w' : World) (C : List Chunk), Sem.run Pr (Instr.buildSlice 22 0 #[]) w = .ok (.slice s.a s.len s.cap) w' ∧ OwnL s [] [] C I ∧ Sep E w' (C ++ L) := by
  obtain ⟨s, w', C, h, ho, hS'⟩ := hS.litBs (n := 0) (parts := []) (ss := []) rfl (by omega) (by kernel_rfl)
  exact ⟨s, w', C, h, ⟨ho, RdBs.nil I⟩, hS'⟩
theorem Sep.lit1 {E w : World} {L : List Chunk} (hS : Sep E w L) (x : SV) : ∃ (s : SV) (w' : World) (C : List Chunk), Sem.run Pr (Instr.buildSlice 22 1 #[(0, .slice x.a x.len x.cap)]) w = .ok (.slice s.a s.len s.cap) w' ∧ RdS C 1 s ([x].map slV) ∧ Sep E w' (C ++ L) := by
  obtain ⟨s, w', C, h, ho, hS'⟩ := hS.litBs (n := 1) (parts := [(0, .slice x.a x.len x.cap)]) (ss := [x]) rfl (by omega) (by kernel_rfl)
  exact ⟨s, w', C, h, ho.rds, hS'⟩

/-- 'append(append(append([][]byte{}, o[:k]...), x), o[k:]...)', in whatever order. -/
theorem insOrders {E w : World} {L I : List Chunk} {o x : SV} {ss : List SV} {ls : List (List UInt8)} {b : List UInt8} {k : Nat} {Kf : SV → World → Prop} (hS : Sep E w L) (hr : RdS L 1 o (ss.map slV)) (hs : RdBs I ss ls) (hx : RdB I x b) (hk : k ≤ ls.length) (hn : ls.length ≤ 1000000)
    (hK : ∀ s9 w8 ss' C G, OwnL s9 ss' (ls.take k ++ [b] ++ ls.drop k) C I → Sep E w8 (C ++ (G ++ L)) → Kf s9 w8) :
    (∃ (s5 : SV) (w4 : World), Sem.run Pr (Instr.buildSlice 22 0 #[]) w = .ok (.slice s5.a s5.len s5.cap) w4 ∧ ∃ (Qs5 : World → Prop), Qs5 w4 ∧ (∃ (s6 : SV) (w5 : World), Sem.run Pr (Builtin.append_ #[22, 22] 22 #[(.slice s5.a s5.len s5.cap), (.slice (cutAt o.a 0 o.cap 1) ((Int.toNat ((k : Nat) : Int)) - 0) (o.cap - 0))]) w4 = .ok (.slice s6.a s6.len s6.cap) w5 ∧ ∃ (Qs6 : World → Prop), Qs6 w5 ∧ ∃ (s7 : SV) (w6 : World), Sem.run Pr (Instr.buildSlice 22 1 #[(0, (.slice x.a x.len x.cap))]) w5 = .ok (.slice s7.a s7.len s7.cap) w6 ∧ ∃ (Qs7 : World → Prop), Qs7 w6 ∧ ∃ (s8 : SV) (w7 : World), Sem.run Pr (Builtin.append_ #[22, 22] 22 #[(.slice s6.a s6.len s6.cap), (.slice s7.a s7.len s7.cap)]) w6 = .ok (.slice s8.a s8.len s8.cap) w7 ∧ ∃ (Qs8 : World → Prop), Qs8 w7 ∧ ∃ (s9 : SV) (w8 : World), Sem.run Pr (Builtin.append_ #[22, 22] 22 #[(.slice s8.a s8.len s8.cap), (.slice (cutAt o.a (Int.toNat ((k : Nat) : Int)) o.cap 1) (o.len - (Int.toNat ((k : Nat) : Int))) (o.cap - (Int.toNat ((k : Nat) : Int))))]) w7 = .ok (.slice s9.a s9.len s9.cap) w8 ∧ ∃ (Qs9 : World → Prop), Qs9 w8 ∧ Kf s9 w8) ∧
    ∃ (s10 : SV) (w9 : World), Sem.run Pr (Instr.buildSlice 22 1 #[(0, (.slice x.a x.len x.cap))]) w4 = .ok (.slice s10.a s10.len s10.cap) w9 ∧ ∃ (Qs10 : World → Prop), Qs10 w9 ∧ ∃ (s11 : SV) (w10 : World), Sem.run Pr (Builtin.append_ #[22, 22] 22 #[(.slice s5.a s5.len s5.cap), (.slice (cutAt o.a 0 o.cap 1) ((Int.toNat ((k : Nat) : Int)) - 0) (o.cap - 0))]) w9 = .ok (.slice s11.a s11.len s11.cap) w10 ∧ ∃ (Qs11 : World → Prop), Qs11 w10 ∧ ∃ (s12 : SV) (w11 : World), Sem.run Pr (Builtin.append_ #[22, 22] 22 #[(.slice s11.a s11.len s11.cap), (.slice s10.a s10.len s10.cap)]) w10 = .ok (.slice s12.a s12.len s12.cap) w11 ∧ ∃ (Qs12 : World → Prop), Qs12 w11 ∧ ∃ (s13 : SV) (w12 : World), Sem.run Pr (Builtin.append_ #[22, 22] 22 #[(.slice s12.a s12.len s12.cap), (.slice (cutAt o.a (Int.toNat ((k : Nat) : Int)) o.cap 1) (o.len - (Int.toNat ((k : Nat) : Int))) (o.cap - (Int.toNat ((k : Nat) : Int))))]) w11 = .ok (.slice s13.a s13.len s13.cap) w12 ∧ ∃ (Qs13 : World → Prop), Qs13 w12 ∧ Kf s13 w12) ∧
    ∃ (s14 : SV) (w13 : World), Sem.run Pr (Instr.buildSlice 22 1 #[(0, (.slice x.a x.len x.cap))]) w = .ok (.slice s14.a s14.len s14.cap) w13 ∧ ∃ (Qs14 : World → Prop), Qs14 w13 ∧ ∃ (s15 : SV) (w14 : World), Sem.run Pr (Instr.buildSlice 22 0 #[]) w13 = .ok (.slice s15.a s15.len s15.cap) w14 ∧ ∃ (Qs15 : World → Prop), Qs15 w14 ∧ ∃ (s16 : SV) (w15 : World), Sem.run Pr (Builtin.append_ #[22, 22] 22 #[(.slice s15.a s15.len s15.cap), (.slice (cutAt o.a 0 o.cap 1) ((Int.toNat ((k : Nat) : Int)) - 0) (o.cap - 0))]) w14 = .ok (.slice s16.a s16.len s16.cap) w15 ∧ ∃ (Qs16 : World → Prop), Qs16 w15 ∧ ∃ (s17 : SV) (w16 : World), Sem.run Pr (Builtin.append_ #[22, 22] 22 #[(.slice s16.a s16.len s16.cap), (.slice s14.a s14.len s14.cap)]) w15 = .ok (.slice s17.a s17.len s17.cap) w16 ∧ ∃ (Qs17 : World → Prop), Qs17 w16 ∧ ∃ (s18 : SV) (w17 : World), Sem.run Pr (Builtin.append_ #[22, 22] 22 #[(.slice s17.a s17.len s17.cap), (.slice (cutAt o.a (Int.toNat ((k : Nat) : Int)) o.cap 1) (o.len - (Int.toNat ((k : Nat) : Int))) (o.cap - (Int.toNat ((k : Nat) : Int))))]) w16 = .ok (.slice s18.a s18.len s18.cap) w17 ∧ ∃ (Qs18 : World → Prop), Qs18 w17 ∧ Kf s18 w17 := by
  have hlen : o.len = ls.length := by rw [hr.len1, List.length_map, hs.1]
  have hc := hr.cap
  have r1 : RdS L 1 ⟨cutAt o.a 0 o.cap 1, k - 0, o.cap - 0⟩ ((ss.take k).map slV) := by
    have := hr.cut (l := 0) (h := k) (m := o.cap) (by omega) (by omega) (by omega) (Nat.le_refl _)
    simpa using this
  have r2 : RdS L 1 ⟨cutAt o.a k o.cap 1, o.len - k, o.cap - k⟩ ((ss.drop k).map slV) := by
    have := hr.cut (l := k) (h := o.len) (m := o.cap) (by omega) (by omega) hc (Nat.le_refl _)
    rw [Nat.mul_one, Nat.mul_one, ← List.map_drop, List.take_of_length_le (by simp [hs.1]; omega)] at this
    exact this
  have l1 : (ls.take k).length ≤ 1000000 := by simp; omega
  have l2 : (ls.drop k).length ≤ 1000000 := by simp; omega
  simp only [Int.toNat_natCast]
  refine ⟨?_, ?_⟩
  · obtain ⟨s5, w4, C5, e5, o5, S5⟩ := hS.lit0 I
    refine ⟨s5, w4, e5, fun _ => True, trivial, ?_, ?_⟩
    · obtain ⟨s6, w5, C6, e6, o6, S6⟩ := S5.appL o5 r1 (hs.take k) (by simp; omega)
      refine ⟨s6, w5, e6, fun _ => True, trivial, ?_⟩
      obtain ⟨s7, w6, C7, e7, o7, S7⟩ := S6.lit1 x
      refine ⟨s7, w6, e7, fun _ => True, trivial, ?_⟩
      have S7' : Sep E w6 (C6 ++ (C7 ++ L)) := S7.weak (by intro f; simp only [ms_append, ms_cons, ms_nil]; omega)
      obtain ⟨s8, w7, C8, e8, o8, S8⟩ := S7'.appL o6 (o7.left L) ((RdBs.nil I).cons hx) (by simp; omega)
      refine ⟨s8, w7, e8, fun _ => True, trivial, ?_⟩
      obtain ⟨s9, w8, C9, e9, o9, S9⟩ := S8.appL o8 (r2.right C7) (hs.drop k) (by simp; omega)
      exact ⟨s9, w8, e9, fun _ => True, trivial, hK _ _ _ C9 C7 o9 S9⟩
    · obtain ⟨s7, w6, C7, e7, o7, S7⟩ := S5.lit1 x
      refine ⟨s7, w6, e7, fun _ => True, trivial, ?_⟩
      have S7' : Sep E w6 (C5 ++ (C7 ++ L)) := S7.weak (by intro f; simp only [ms_append, ms_cons, ms_nil]; omega)
      obtain ⟨s6, w5, C6, e6, o6, S6⟩ := S7'.appL o5 (r1.right C7) (hs.take k) (by simp; omega)
      refine ⟨s6, w5, e6, fun _ => True, trivial, ?_⟩
      obtain ⟨s8, w7, C8, e8, o8, S8⟩ := S6.appL o6 (o7.left L) ((RdBs.nil I).cons hx) (by simp; omega)
      refine ⟨s8, w7, e8, fun _ => True, trivial, ?_⟩
      obtain ⟨s9, w8, C9, e9, o9, S9⟩ := S8.appL o8 (r2.right C7) (hs.drop k) (by simp; omega)
      exact ⟨s9, w8, e9, fun _ => True, trivial, hK _ _ _ C9 C7 o9 S9⟩
  · obtain ⟨s7, w6, C7, e7, o7, S7⟩ := hS.lit1 x
    refine ⟨s7, w6, e7, fun _ => True, trivial, ?_⟩
    obtain ⟨s5, w4, C5, e5, o5, S5⟩ := S7.lit0 I
    refine ⟨s5, w4, e5, fun _ => True, trivial, ?_⟩
    obtain ⟨s6, w5, C6, e6, o6, S6⟩ := S5.appL o5 (r1.right C7) (hs.take k) (by simp; omega)
    refine ⟨s6, w5, e6, fun _ => True, trivial, ?_⟩
    obtain ⟨s8, w7, C8, e8, o8, S8⟩ := S6.appL o6 (o7.left L) ((RdBs.nil I).cons hx) (by simp; omega)
    refine ⟨s8, w7, e8, fun _ => True, trivial, ?_⟩
    obtain ⟨s9, w8, C9, e9, o9, S9⟩ := S8.appL o8 (r2.right C7) (hs.drop k) (by simp; omega)
    exact ⟨s9, w8, e9, fun _ => True, trivial, hK _ _ _ C9 C7 o9 S9⟩

end Go.Proofs.Ytonjaaljnjjjcaa
