/- A run's reader. Conditions: as each lemma says. -/
import Derived.Test.YtonjaaljnjjjcaaKA
import Derived.Test.YtonjaaljnjjjcaaR3
set_option linter.unusedVariables false
set_option linter.unusedSimpArgs false
namespace Go.Proofs.Ytonjaaljnjjjcaa
open Go Go.RowKit

def rChunk (b : Nat) (s t : SV) (any bad : Bool) : Chunk := (b, .cells [slV s, slV t, .bool any, .bool bad].toArray 130 (0, 0))

/-- What a reader is to read, its last record, whether it is bad. -/
structure MRd where
  rest : List UInt8
  ord : Option (List UInt8)
  bad : Bool

/-- What Next tells, and what is left. -/
def MRd.next (r : MRd) : (List UInt8 × Bool × Int) × MRd :=
  if r.bad = true then (([], false, 6), r)
  else if r.rest = [] then (([], false, 0), r)
  else if (takeF r.rest).1 = 0 ∧ (takeF r.rest).2.1.length ≤ 64 ∧ rises r.ord (takeF r.rest).2.1 = true then (((takeF r.rest).2.1, true, 0), ⟨r.rest.drop (takeF r.rest).2.2, some (takeF r.rest).2.1, false⟩)
  else (([], false, 6), ⟨r.rest, r.ord, true⟩)

structure RdRep (I : List Chunk) (s t : SV) (any : Bool) (r : MRd) : Prop where
  rest : RdB I s r.rest
  ord : OrdRep I t any r.ord

/-- What is told, stored and loaded again. -/
theorem headSt {E w : World} {L : List Chunk} {g : Nat} {cs : List Value} (hS : Sep E w ((g, .cells cs.toArray 34 (0, 0)) :: L)) (hc : cs.length = 2) (s : SV) (ok : Bool) :
    ∃ w', Sem.run Pr (Instr.storeAt 34 (.pointer (some ⟨g, 0, none⟩)) (.agg #[.slice s.a s.len s.cap, .bool ok])) w = .ok () w' ∧ At Pr w' (loadVar 34 ⟨g, 0, none⟩) (.agg #[.slice s.a s.len s.cap, .bool ok]) ∧ Sep E w' ((g, .cells [slV s, .bool ok].toArray 34 (0, 0)) :: L) := by
  obtain ⟨w1, h1, hS1⟩ := hS.store (o := 0) (n := 2) (v := .agg #[slV s, .bool ok]) (t := 34) (by kernel_rfl) rfl (by omega) (by simp [Value.cells, Value.oneCell'])
  have e : spl cs 0 (Value.agg #[slV s, .bool ok]).cells.toList = [slV s, .bool ok] := by
    obtain ⟨a, b, rfl⟩ : ∃ a b, cs = [a, b] := by
      match cs, hc with
      | [a, b], _ => exact ⟨a, b, rfl⟩
    rfl
  rw [e] at hS1
  exact ⟨w1, h1, hS1.loadS (o := 0) (n := 2) List.mem_cons_self (by kernel_rfl) (by kernel_rfl) rfl (by simp), hS1⟩

/-- Next. -/
theorem k21 {E w : World} {L I : List Chunk} {b : Nat} {s t : SV} {any : Bool} {r : MRd} (hS : Sep E w (rChunk b s t any r.bad :: L)) (hr : RdRep I s t any r) (hI : ∀ c ∈ I, c ∈ L) (hb : r.rest.length ≤ 1000000000000) :
    Calls Pr 21 #[.pointer (some ⟨b, 0, none⟩)] w fun e w' => ∃ (h s' t' : SV) (any' : Bool) (C : List Chunk), e = .returned (.tuple #[.agg #[.slice h.a h.len h.cap, .bool r.next.1.2.1], .int .i64 r.next.1.2.2]) ∧ RdB (C ++ I) h r.next.1.1 ∧ RdRep (C ++ I) s' t' any' r.next.2 ∧ Sep E w' (rChunk b s' t' any' r.next.2.bad :: (C ++ L)) := by
  obtain ⟨rest, ord, bad⟩ := r
  obtain ⟨hr1, hr2⟩ := hr
  dsimp only at hS hr1 hr2 hb
  refine call21 ?_
  unfold ir21
  obtain ⟨g, w1, h1, hS1⟩ := hS.alloc (t := 34) z34
  have hS1 : Sep E w1 ((g, .cells [.slice none 0 0, .bool false].toArray 34 (0, 0)) :: rChunk b s t any bad :: L) := hS1
  refine ⟨_, w1, h1, brc_false rfl ?_⟩
  refine ⟨bad, hS1.load (b := b) (o := 3) (List.mem_cons_of_mem _ List.mem_cons_self) rfl (by kernel_rfl), brc_intro (fun h => ?_) (fun h => ?_)⟩
  · subst h
    obtain ⟨w2, h2, hl, hS2⟩ := headSt hS1 rfl SV.nil false
    refine ⟨w2, h2, SV.nil, false, hl, SV.nil, s, t, any, [(g, .cells [slV SV.nil, .bool false].toArray 34 (0, 0))], rfl, RdS.none _ _, ⟨hr1.right _, hr2.right _⟩, ?_⟩
    show Sep E w2 (rChunk b s t any true :: ([(g, .cells [slV SV.nil, .bool false].toArray 34 (0, 0))] ++ L))
    exact hS2.weak (by intro f; simp only [ms_append, ms_cons, ms_nil]; omega)
  subst h
  have hsz := hr1.size
  refine ⟨s, hS1.load (b := b) (o := 0) (List.mem_cons_of_mem _ List.mem_cons_self) rfl (by kernel_rfl), brc_intro (fun h => ?_) (fun h => ?_)⟩
  · have h : rest = [] := List.eq_nil_of_length_eq_zero (by simp at h; omega)
    subst h
    obtain ⟨w2, h2, hl, hS2⟩ := headSt hS1 rfl SV.nil false
    refine ⟨w2, h2, SV.nil, false, hl, SV.nil, s, t, any, [(g, .cells [slV SV.nil, .bool false].toArray 34 (0, 0))], rfl, RdS.none _ _, ⟨hr1.right _, hr2.right _⟩, ?_⟩
    show Sep E w2 (rChunk b s t any false :: ([(g, .cells [slV SV.nil, .bool false].toArray 34 (0, 0))] ++ L))
    exact hS2.weak (by intro f; simp only [ms_append, ms_cons, ms_nil]; omega)
  have hne : rest ≠ [] := fun e => by subst e; simp at h hsz; omega
  refine ⟨s, hS1.load (b := b) (o := 0) (List.mem_cons_of_mem _ List.mem_cons_self) rfl (by kernel_rfl), ?_⟩
  refine (k82 hS1 hr1 (fun c hc => by simp [hI c hc]) hb).mono ?_
  rintro _ w2 ⟨s1, s2, C, hS2, rfl, hrd⟩
  refine ⟨s1, s2, _, rfl, ?_⟩
  -- what is told when it is bad
  have fail : ¬ ((takeF rest).1 = 0 ∧ (takeF rest).2.1.length ≤ 64 ∧ rises ord (takeF rest).2.1 = true) → ∀ (w3 : World) (C3 : List Chunk), Sep E w3 (rChunk b s t any false :: ((g, .cells [.slice none 0 0, .bool false].toArray 34 (0, 0)) :: (C3 ++ L))) →
      ∃ w6, Sem.run Pr (Instr.storeAt 4 (.pointer (some (Addr.add ⟨b, 0, none⟩ 3))) (.bool true)) w3 = .ok () w6 ∧ ∃ w7, Sem.run Pr (Instr.storeAt 34 (.pointer (some ⟨g, 0, none⟩)) (.agg #[.slice none 0 0, .bool false])) w6 = .ok () w7 ∧
        ∃ (s8 : SV) (b5 : Bool), At Pr w7 (loadVar 34 ⟨g, 0, none⟩) (.agg #[.slice s8.a s8.len s8.cap, .bool b5]) ∧
          ∃ (h s' t' : SV) (any' : Bool) (C : List Chunk), Ending.returned (.tuple #[.agg #[.slice s8.a s8.len s8.cap, .bool b5], .int .i64 6]) = .returned (.tuple #[.agg #[.slice h.a h.len h.cap, .bool (MRd.next ⟨rest, ord, false⟩).1.2.1], .int .i64 (MRd.next ⟨rest, ord, false⟩).1.2.2]) ∧ RdB (C ++ I) h (MRd.next ⟨rest, ord, false⟩).1.1 ∧ RdRep (C ++ I) s' t' any' (MRd.next ⟨rest, ord, false⟩).2 ∧ Sep E w7 (rChunk b s' t' any' (MRd.next ⟨rest, ord, false⟩).2.bad :: (C ++ L)) := by
    intro hn w3 C3 hS3
    have hx : MRd.next ⟨rest, ord, false⟩ = (([], false, 6), ⟨rest, ord, true⟩) := by
      unfold MRd.next
      rw [if_neg (by simp), if_neg hne, if_neg hn]
    rw [hx]
    obtain ⟨w6, h6, hS6⟩ := Sep.store (o := 3) (n := 1) (v := .bool true) (t := 4) hS3 (by kernel_rfl) rfl (by simp) (by simp [Value.cells, Value.oneCell'])
    have hS6' : Sep E w6 ((g, .cells [.slice none 0 0, .bool false].toArray 34 (0, 0)) :: (rChunk b s t any true :: (C3 ++ L))) := Sep.weak (L := rChunk b s t any true :: ((g, .cells [.slice none 0 0, .bool false].toArray 34 (0, 0)) :: (C3 ++ L))) hS6 (by intro f; simp only [ms_append, ms_cons, ms_nil]; omega)
    obtain ⟨w7, h7, hl, hS7⟩ := headSt hS6' rfl SV.nil false
    refine ⟨w6, h6, w7, h7, SV.nil, false, hl, SV.nil, s, t, any, (g, .cells [slV SV.nil, .bool false].toArray 34 (0, 0)) :: C3, rfl, RdS.none _ _, ⟨hr1.right _, hr2.right _⟩, ?_⟩
    exact hS7.weak (by intro f; simp only [ms_append, ms_cons, ms_nil]; omega)
  have hS2' : Sep E w2 (rChunk b s t any false :: ((g, .cells [.slice none 0 0, .bool false].toArray 34 (0, 0)) :: (C ++ L))) := hS2.weak (by intro f; simp only [ms_append, ms_cons, ms_nil]; omega)
  refine brc_intro (fun h => fail (fun hh => by simp [hh.1] at h) w2 C hS2') (fun h0 => ?_)
  have h0 : (takeF rest).1 = 0 := by simpa using h0
  obtain ⟨hrd1, hrd2⟩ := hrd h0
  have hz := hrd1.size
  refine brc_intro (fun h => fail (fun hh => by have := hh.2.1; simp at h; omega) w2 C hS2') (fun h64 => ?_)
  have h64 : (takeF rest).2.1.length ≤ 64 := by simp at h64; omega
  refine (k83 (b := b) (T := 130) (v0 := slV s) (v3 := .bool false) (s := t) (any := any) (o := ord) (m := (takeF rest).2.1) hS2' (hr2.mono fun c hc => by simp [hI c hc]) (hrd1.mono fun c hc => by simp [hc]) (by omega)).mono ?_
  rintro _ w3 ⟨t', any', C3, rfl, ho', hS3⟩
  refine ⟨_, rfl, brc_intro (fun h => ?_) (fun h => ?_)⟩
  · have h : rises ord (takeF rest).2.1 = false := by simpa using h
    rcases ho' with ⟨h', _⟩ | ⟨_, rfl, rfl⟩
    · rw [h] at h'; cases h'
    refine fail (fun hh => by rw [h] at hh; exact absurd hh.2.2 (by decide)) w3 (C3 ++ C) ?_
    have : Sep E w3 (rChunk b s t' any' false :: (C3 ++ ((g, .cells [.slice none 0 0, .bool false].toArray 34 (0, 0)) :: (C ++ L)))) := hS3
    exact this.weak (by intro f; simp only [ms_append, ms_cons, ms_nil]; omega)
  · have h : rises ord (takeF rest).2.1 = true := by simpa using h
    rcases ho' with ⟨_, rfl, hrt⟩ | ⟨h', _⟩
    case inr => rw [h] at h'; cases h'
    have hx : MRd.next ⟨rest, ord, false⟩ = (((takeF rest).2.1, true, 0), ⟨rest.drop (takeF rest).2.2, some (takeF rest).2.1, false⟩) := by
      unfold MRd.next
      rw [if_neg (by simp), if_neg hne, if_pos ⟨h0, h64, h⟩]
    rw [hx]
    obtain ⟨w4, h4, hS4⟩ := Sep.store (o := 0) (n := 1) (v := slV s2) (t := 26) hS3 (by kernel_rfl) rfl (by simp) (by simp [Value.cells, Value.oneCell'])
    have hS4' : Sep E w4 ((g, .cells [.slice none 0 0, .bool false].toArray 34 (0, 0)) :: (rChunk b s2 t' true false :: (C3 ++ (C ++ L)))) := Sep.weak (L := rChunk b s2 t' true false :: (C3 ++ ((g, .cells [.slice none 0 0, .bool false].toArray 34 (0, 0)) :: (C ++ L)))) hS4 (by intro f; simp only [ms_append, ms_cons, ms_nil]; omega)
    obtain ⟨w5, h5, hl, hS5⟩ := headSt hS4' rfl s1 true
    refine ⟨w4, h4, w5, h5, s1, true, hl, s1, s2, t', true, (g, .cells [slV s1, .bool true].toArray 34 (0, 0)) :: (C3 ++ C), rfl, hrd1.mono fun c hc => by simp [hc], ⟨hrd2.mono fun c hc => by simp [hc], rfl, fun l hl => ?_⟩, ?_⟩
    · simp only [Option.some.injEq] at hl
      subst hl
      exact hrt.mono fun c hc => by simp [hc]
    · exact hS5.weak (by intro f; simp only [ms_append, ms_cons, ms_nil]; omega)

end Go.Proofs.Ytonjaaljnjjjcaa
