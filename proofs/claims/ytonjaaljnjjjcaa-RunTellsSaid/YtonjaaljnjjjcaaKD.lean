/- All records of a run: the iterator. Conditions: as each lemma says. -/
import Derived.Test.YtonjaaljnjjjcaaKB
import Derived.Test.YtonjaaljnjjjcaaKC
set_option linter.unusedVariables false
set_option linter.unusedSimpArgs false
namespace Go.Proofs.Ytonjaaljnjjjcaa
open Go Go.RowKit

abbrev Rec1 := List UInt8 × Int

theorem MRd.next_ok {r : MRd} (h : r.next.1.2.1 = true) : r.next.1.2.2 = 0 ∧ r.next.2.rest.length < r.rest.length := by
  unfold MRd.next at *
  split at h
  · simp at h
  · split at h
    · simp at h
    · rename_i h1 h2
      split at h
      · rename_i h3
        rw [if_neg h1, if_neg h2, if_pos h3]
        obtain ⟨a, b, c⟩ := takeF_cnt h3.1
        refine ⟨rfl, ?_⟩
        simp only [List.length_drop]
        omega
      · simp at h

/-- The records that are told, one behind the other. -/
def recsR (r : MRd) : List Rec1 :=
  if h : r.next.1.2.1 = true then (r.next.1.1, r.next.1.2.2) :: recsR r.next.2
  else if r.next.1.2.2 ≠ 0 then [(r.next.1.1, r.next.1.2.2)] else []
termination_by r.rest.length
decreasing_by exact (MRd.next_ok h).2

/-- What is told from one step on. -/
def recsF (x : (List UInt8 × Bool × Int) × MRd) : List Rec1 := if x.1.2.1 = true then (x.1.1, x.1.2.2) :: recsR x.2 else if x.1.2.2 ≠ 0 then [(x.1.1, x.1.2.2)] else []
theorem recsR_eq (r : MRd) : recsR r = recsF r.next := by
  rw [recsR]
  unfold recsF
  split <;> rfl

def recEnc (I : List Chunk) (x : Rec1) (vs : List Value) : Prop := ∃ s : SV, RdB I s x.1 ∧ vs = [.slice s.a s.len s.cap, .int .i64 x.2]

def gC (g : Nat) (s : SV) (ok : Bool) : Chunk := (g, .cells [slV s, .bool ok].toArray 34 (0, 0))

/-- run.All's function. -/
theorem k89 {E w : World} {U I R : List Chunk} {c : Nat} {s : SV} {l : List UInt8} {lp : Nat} {J : YInv Rec1} (hS : Sep E w (U ++ (I ++ ((c, .cells [slV s].toArray 26 (0, 0)) :: R)))) (hr : RdB I s l) (hb : l.length ≤ 1000000000000)
    (hJ : J.on [] U I) (hy : Yields1 E lp J (fun pre => pre <+: recsR ⟨l, none, false⟩) recEnc) :
    Calls Pr 89 #[.func (.yield lp) #[] #[], .pointer (some ⟨c, 0, none⟩)] w fun e w' => e = .returned (.tuple #[]) ∧ ∃ U' I' R', Sep E w' (U' ++ (I' ++ ((c, .cells [slV s].toArray 26 (0, 0)) :: (R' ++ R)))) ∧ (∃ Ci, I' = Ci ++ I) ∧ (J.on (recsR ⟨l, none, false⟩) U' I' ∨ ∃ pre, pre <+: recsR ⟨l, none, false⟩ ∧ J.off pre U' I') := by
  refine call89 (x0 := ⟨.yield lp, #[], #[]⟩) ?_
  unfold ir89
  refine ⟨s, hS.load (b := c) (o := 0) (cs := [slV s].toArray) (T := 26) (fr := (0, 0)) (by simp) rfl (by kernel_rfl), ?_⟩
  refine (k88 hS (hr.mono fun c hc => by simp [hc]) (by omega)).mono ?_
  rintro _ w1 ⟨s2, C, rfl, ho, hS1⟩
  refine ⟨s2, rfl, ?_⟩
  obtain ⟨b, w2, h2, hS2⟩ := hS1.newVar (t := 130) (v := .agg #[slV s2, .slice none 0 0, .bool false, .bool false])
  refine ⟨_, w2, h2, ?_⟩
  have hS2 : Sep E w2 (rChunk b s2 SV.nil false false :: (C ++ (U ++ (I ++ ((c, .cells [slV s].toArray 26 (0, 0)) :: R))))) := hS2
  refine (k21 (r := ⟨l, none, false⟩) (I := C ++ I) hS2 ⟨ho.rdl I, rfl, fun l hl => by cases hl⟩ (fun c hc => by
    rcases List.mem_append.1 hc with hc | hc <;> simp [hc]) hb).mono ?_
  rintro _ w3 ⟨hv, s3, t3, any3, C3, rfl, hrh, hrr, hS3⟩
  refine ⟨hv, _, _, rfl, ?_⟩
  obtain ⟨g, w4, h4, hS4⟩ := hS3.alloc (t := 34) z34
  refine ⟨_, w4, h4, ?_⟩
  obtain ⟨w5, h5, _, hS5⟩ := headSt (g := g) (cs := [.slice none 0 0, .bool false]) hS4 rfl hv (MRd.next ⟨l, none, false⟩).1.2.1
  refine ⟨w5, h5, ?_⟩
  let cC : Chunk := (c, .cells [slV s].toArray 26 (0, 0))
  let Inv : Nat → Addr × Int × Unit → World → Prop := fun n σ w => ∃ (pre : List Rec1) (x : (List UInt8 × Bool × Int) × MRd) (U' I' R' : List Chunk) (g : Nat) (h s t : SV) (any : Bool),
    n = (if x.1.2.1 = true then x.2.rest.length + 1 else 0) ∧ σ = (⟨g, 0, none⟩, x.1.2.2, ()) ∧ pre ++ recsF x = recsR ⟨l, none, false⟩ ∧ (x.1.2.1 = true → x.1.2.2 = 0) ∧ x.2.rest.length ≤ l.length ∧ J.on pre U' I' ∧ (∃ Ci, I' = Ci ++ I) ∧ RdB I' h x.1.1 ∧ RdRep I' s t any x.2 ∧
    Sep E w (U' ++ (I' ++ (gC g h x.1.2.1 :: rChunk b s t any x.2.bad :: cC :: (R' ++ R))))
  have hnext_le : ∀ r : MRd, r.next.2.rest.length ≤ r.rest.length := fun r => by
    unfold MRd.next
    split
    · exact Nat.le_refl _
    · split
      · exact Nat.le_refl _
      · split
        · simp
        · exact Nat.le_refl _
  refine ⟨Inv, _, ⟨[], MRd.next ⟨l, none, false⟩, U, C3 ++ (C ++ I), [], g, hv, s3, t3, any3, rfl, rfl, by rw [recsR_eq]; rfl, fun h => (MRd.next_ok h).1, hnext_le _, J.mono (fun c hc => by simp [hc]) hJ, ⟨C3 ++ C, by simp⟩, hrh, hrr, hS5.weak (by
    intro f
    simp only [gC, cC, ms_append, ms_cons, ms_nil]
    omega)⟩, ?_⟩
  rintro n σ w6 ⟨pre, x, U', I', R', g, h, s6, t6, any6, rfl, rfl, hpre, hok, hlen, hJ', hI', hrh', hrr', hS6⟩ _
  obtain ⟨⟨xb, xk, xe⟩, r⟩ := x
  dsimp only at hpre hok hlen hrh' hrr' hS6 ⊢
  refine ⟨xk, hS6.load (b := g) (o := 1) (cs := [slV h, .bool xk].toArray) (T := 34) (fr := (0, 0)) (by simp [gC]) rfl (by kernel_rfl), ?_⟩
  have hld : At Pr w6 (loadVar 26 ⟨g, 0, none⟩) (.slice h.a h.len h.cap) := hS6.load (b := g) (o := 0) (cs := [slV h, .bool xk].toArray) (T := 34) (fr := (0, 0)) (by simp [gC]) rfl (by kernel_rfl)
  -- a round
  have round : ∀ {K : Ending → World → Prop}, pre ++ [(xb, xe)] <+: recsR ⟨l, none, false⟩ → (∀ U2 w7, Sep E w7 (U2 ++ (I' ++ (gC g h xk :: rChunk b s6 t6 any6 r.bad :: cC :: (R' ++ R)))) → J.on (pre ++ [(xb, xe)]) U2 I' → K (.returned (.bool true)) w7) →
      (∀ U2 w7, Sep E w7 (U2 ++ (I' ++ (gC g h xk :: rChunk b s6 t6 any6 r.bad :: cC :: (R' ++ R)))) → J.off (pre ++ [(xb, xe)]) U2 I' → K (.returned (.bool false)) w7) →
      callV Pr (.func (.yield lp) #[] #[]) [.slice h.a h.len h.cap, .int .i64 xe] w6 K := by
    intro K hp h1 h2
    have := hy pre (xb, xe) U' I' _ w6 [.slice h.a h.len h.cap, .int .i64 xe] hp hJ' ⟨h, hrh', rfl⟩ hS6
    refine yieldC_mono this ?_
    rintro e w7 ⟨U2, hS7, ⟨rfl, hj⟩ | ⟨rfl, hj⟩⟩
    · exact h1 U2 w7 hS7 hj
    · exact h2 U2 w7 hS7 hj
  have fin : ∀ (U2 : List Chunk) (w7 : World), Sep E w7 (U2 ++ (I' ++ (gC g h xk :: rChunk b s6 t6 any6 r.bad :: cC :: (R' ++ R)))) → (J.on (recsR ⟨l, none, false⟩) U2 I' ∨ ∃ pre, pre <+: recsR ⟨l, none, false⟩ ∧ J.off pre U2 I') →
      Ending.returned (.tuple #[]) = .returned (.tuple #[]) ∧ ∃ U' I' R', Sep E w7 (U' ++ (I' ++ ((c, .cells [slV s].toArray 26 (0, 0)) :: (R' ++ R)))) ∧ (∃ Ci, I' = Ci ++ I) ∧ (J.on (recsR ⟨l, none, false⟩) U' I' ∨ ∃ pre, pre <+: recsR ⟨l, none, false⟩ ∧ J.off pre U' I') := by
    intro U2 w7 hS7 hj
    exact ⟨rfl, U2, I', gC g h xk :: rChunk b s6 t6 any6 r.bad :: R', hS7.weak (by intro f; simp only [cC, ms_append, ms_cons, ms_nil]; omega), hI', hj⟩
  refine brc_intro (fun h1 => ?_) (fun h1 => ?_)
  · subst h1
    have hxe : xe = 0 := hok rfl
    subst hxe
    have hp : pre ++ [(xb, (0 : Int))] <+: recsR ⟨l, none, false⟩ := ⟨recsR r, by rw [← hpre]; simp [recsF]⟩
    refine ⟨h, by simpa [addr_add] using hld, round hp (fun U2 w7 hS7 hj => ?_) (fun U2 w7 hS7 hj => ⟨false, rfl, brc_true rfl (fin U2 w7 hS7 (.inr ⟨_, hp, hj⟩))⟩)⟩
    refine ⟨true, rfl, brc_false rfl (brc_false rfl ?_)⟩
    refine ⟨h, true, hS7.loadS (b := g) (o := 0) (n := 2) (cs := [slV h, .bool true].toArray) (T := 34) (fr := (0, 0)) (by simp [gC]) (by kernel_rfl) (by kernel_rfl) rfl (by simp), ?_⟩
    obtain ⟨g2, w8, h8, hS8⟩ := hS7.alloc (t := 34) z34
    refine ⟨_, w8, h8, ?_⟩
    obtain ⟨w9, h9, _, hS9⟩ := headSt (g := g2) (cs := [.slice none 0 0, .bool false]) hS8 rfl h true
    refine ⟨w9, h9, ?_⟩
    have hS9' : Sep E w9 (rChunk b s6 t6 any6 r.bad :: (I' ++ (gC g2 h true :: (U2 ++ (gC g h true :: cC :: (R' ++ R)))))) := hS9.weak (by
      intro f
      simp only [gC, ms_append, ms_cons, ms_nil]
      omega)
    refine (k21 hS9' hrr' (fun c hc => by simp [hc]) (by omega)).mono ?_
    rintro _ w10 ⟨h10, s10, t10, any10, C10, rfl, hrh10, hrr10, hS10⟩
    refine ⟨h10, _, _, rfl, ?_⟩
    have hS10' : Sep E w10 (gC g2 h true :: (rChunk b s10 t10 any10 r.next.2.bad :: (C10 ++ (I' ++ (U2 ++ (gC g h true :: cC :: (R' ++ R))))))) := hS10.weak (by intro f; simp only [ms_append, ms_cons, ms_nil]; omega)
    obtain ⟨w11, h11, _, hS11⟩ := headSt (g := g2) (cs := [slV h, .bool true]) hS10' rfl h10 r.next.1.2.1
    refine ⟨w11, h11, _, ?_, pre ++ [(xb, 0)], r.next, U2, C10 ++ I', gC g h true :: R', g2, h10, s10, t10, any10, rfl, rfl, ?_, fun h => (MRd.next_ok h).1, Nat.le_trans (hnext_le r) hlen, J.mono (fun c hc => by simp [hc]) hj, (by obtain ⟨Ci, rfl⟩ := hI'; exact ⟨C10 ++ Ci, by simp⟩), hrh10, hrr10, hS11.weak (by
      intro f
      simp only [gC, ms_append, ms_cons, ms_nil]
      omega)⟩
    · simp only [if_true]
      split
      · rename_i hk
        have := (MRd.next_ok hk).2
        omega
      · omega
    · have e : recsF ((xb, true, 0), r) = (xb, 0) :: recsF r.next := by
        rw [← recsR_eq]
        rfl
      rw [← hpre, List.append_assoc, e]
      rfl
  · subst h1
    refine brc_intro (fun h2 => ?_) (fun h2 => ?_)
    · have h2 : xe ≠ 0 := by simpa using h2
      have he : pre ++ [(xb, xe)] = recsR ⟨l, none, false⟩ := by rw [← hpre]; simp [recsF, h2]
      have hp : pre ++ [(xb, xe)] <+: recsR ⟨l, none, false⟩ := by rw [he]; exact List.prefix_refl _
      refine ⟨h, by simpa [addr_add] using hld, round hp (fun U2 w7 hS7 hj => ?_) (fun U2 w7 hS7 hj => ⟨false, rfl, brc_true rfl (fin U2 w7 hS7 (.inr ⟨_, hp, hj⟩))⟩)⟩
      refine ⟨true, rfl, brc_false rfl (brc_true (by simpa using h2) ?_)⟩
      rw [he] at hj
      exact fin U2 w7 hS7 (.inl hj)
    · have h2 : xe = 0 := by simpa using h2
      subst h2
      have he : pre = recsR ⟨l, none, false⟩ := by rw [← hpre]; simp [recsF]
      rw [he] at hJ'
      exact fin U' w6 hS6 (.inl hJ')

end Go.Proofs.Ytonjaaljnjjjcaa
