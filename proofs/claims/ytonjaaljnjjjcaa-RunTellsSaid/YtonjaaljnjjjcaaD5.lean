/- The program's disk: how many bytes there are. Conditions: as each lemma says. -/
import Derived.Test.YtonjaaljnjjjcaaD4
set_option linter.unusedVariables false
set_option linter.unusedSimpArgs false
namespace Go.Proofs.Ytonjaaljnjjjcaa
open Go Go.RowKit

/-! ### Entries that a range has seen -/
section
variable {K : Type}

theorem ms_seen (g : Ent K → Nat) (seen : List Nat) : ∀ (l : List (Ent K)) (e : Ent K), e ∈ l → (l.map (·.born)).Nodup → e.born ∉ seen →
    ms (fun x => if x.born ∈ seen ++ [e.born] then g x else 0) l = ms (fun x => if x.born ∈ seen then g x else 0) l + g e
  | [], _, h, _, _ => by cases h
  | x :: l, e, h, hn, hs => by
    rw [List.map_cons, List.nodup_cons] at hn
    have hrest : e ∉ l ∨ True := .inr trivial
    rcases List.mem_cons.1 h with rfl | h'
    · have hl : ms (fun x => if x.born ∈ seen ++ [e.born] then g x else 0) l = ms (fun x => if x.born ∈ seen then g x else 0) l := by
        have : ∀ l' : List (Ent K), (∀ y ∈ l', y.born ≠ e.born) → ms (fun x => if x.born ∈ seen ++ [e.born] then g x else 0) l' = ms (fun x => if x.born ∈ seen then g x else 0) l' := by
          intro l'
          induction l' with
          | nil => intro _; rfl
          | cons y l' ih =>
            intro hy
            have h1 := hy y List.mem_cons_self
            rw [ms_cons, ms_cons, ih fun z hz => hy z (List.mem_cons_of_mem _ hz)]
            simp [h1]
        exact this l fun y hy e' => hn.1 (e' ▸ List.mem_map.2 ⟨y, hy, rfl⟩)
      rw [ms_cons, ms_cons, hl]
      simp [hs]
      omega
    · have hne : x.born ≠ e.born := fun e' => hn.1 (e' ▸ List.mem_map.2 ⟨e, h', rfl⟩)
      rw [ms_cons, ms_cons, ms_seen g seen l e h' hn.2 hs]
      simp [hne]
      omega

def cnt (seen : List Nat) (l : List (Ent K)) : Nat := ms (fun x => if x.born ∈ seen then 1 else 0) l
theorem ms_le_len (f : Ent K → Nat) (h : ∀ x, f x ≤ 1) : ∀ l : List (Ent K), ms f l ≤ l.length
  | [] => Nat.le_refl _
  | x :: l => by
    have h1 := h x
    have h2 := ms_le_len f h l
    rw [ms_cons, List.length_cons]
    omega
theorem cnt_le (seen : List Nat) (l : List (Ent K)) : cnt seen l ≤ l.length := ms_le_len _ (fun x => by split <;> omega) l
theorem cnt_step {seen : List Nat} {l : List (Ent K)} {e : Ent K} (h : e ∈ l) (hn : (l.map (·.born)).Nodup) (hs : e.born ∉ seen) : l.length - cnt (seen ++ [e.born]) l < l.length - cnt seen l := by
  have h1 := ms_seen (fun _ => 1) seen l e h hn hs
  have h2 := cnt_le (seen ++ [e.born]) l
  unfold cnt at h2 ⊢
  omega
end

section
variable {K : Type} [DecidableEq K]

theorem getE_mem {l : List (Ent K)} (hn : (l.map (·.k)).Nodup) {e : Ent K} (h : e ∈ l) : getE e.k l = some e.v := by
  induction l with
  | nil => cases h
  | cons x l ih =>
    rw [List.map_cons, List.nodup_cons] at hn
    unfold getE
    rcases List.mem_cons.1 h with rfl | h'
    · simp
    · have hne : ¬ x.k = e.k := fun e' => hn.1 (e' ▸ List.mem_map.2 ⟨e, h', rfl⟩)
      rw [if_neg hne]
      exact ih hn.2 h'

theorem mem_of_getE {l : List (Ent K)} {k : K} {v : Value} (h : getE k l = some v) : ∃ e ∈ l, e.k = k ∧ e.v = v := by
  induction l with
  | nil => simp [getE] at h
  | cons x l ih =>
    unfold getE at h
    split at h
    · rename_i hx
      simp only [Option.some.injEq] at h
      exact ⟨x, List.mem_cons_self, hx, h⟩
    · obtain ⟨e, he, h1⟩ := ih h
      exact ⟨e, List.mem_cons_of_mem _ he, h1⟩

theorem getE_isSome {l : List (Ent K)} {k : K} : (getE k l).isSome ↔ k ∈ l.map (·.k) := by
  constructor
  · intro h
    obtain ⟨v, hv⟩ := Option.isSome_iff_exists.1 h
    obtain ⟨e, he, h1, _⟩ := mem_of_getE hv
    exact List.mem_map.2 ⟨e, he, h1⟩
  · intro h
    cases hg : getE k l with
    | some v => rfl
    | none =>
      obtain ⟨e, he, rfl⟩ := List.mem_map.1 h
      exact absurd rfl (getE_none.1 hg e he)
end

theorem NameRep.ent {bs : List Nat} {nm : Names} {l : List (Ent ByteArray)} {c : Nat} (h : NameRep bs nm l c) {e : Ent ByteArray} (he : e ∈ l) : ∃ i, findN e.k nm = some i ∧ i < bs.length ∧ e.v = .pointer (filePtr bs i) := by
  have h1 := getE_mem h.wf.keys he
  rw [h.get] at h1
  cases hf : findN e.k nm with
  | none => rw [hf] at h1; cases h1
  | some i =>
    rw [hf] at h1
    simp only [Option.map_some, Option.some.injEq] at h1
    exact ⟨i, rfl, h.ids _ _ hf, h1.symm⟩

/-- An element of a slice of structs. -/
theorem RdS.idxS {I : List Chunk} {sz : Nat} {s : SV} {xs : List Value} (h : RdS I sz s xs) {i : Nat} (hi : i < s.len) (hsz : 0 < sz) {E w : World} {L : List Chunk} (hS : Sep E w L) (hI : ∀ c ∈ I, c ∈ L) {t : TypeId} (ht : structT Pr t = true) (hn : sizeOf? Pr t = some sz) :
    ∃ a, s.a = some a ∧ At Pr w (loadVar t (a.add (i * sz))) (.agg ((xs.drop (i * sz)).take sz).toArray) := by
  cases ha : s.a with
  | none => have h0 := h.nil ha; omega
  | some a =>
    refine ⟨a, rfl, ?_⟩
    obtain ⟨b, o, sp⟩ := a
    rcases h.at_ _ ha with h0 | ⟨h1, cs, T, fr, hc, hv⟩
    · omega
    · simp only at h1
      subst h1
      rw [addr_add]
      have hlen := h.len
      have hbound : (i + 1) * sz ≤ s.len * sz := Nat.mul_le_mul_right _ (by omega)
      rw [Nat.succ_mul] at hbound
      have hcs : o + xs.length ≤ cs.size := by
        refine Classical.byContradiction fun hn => ?_
        have hx : xs.length - 1 < xs.length := by omega
        have := hv (xs.length - 1) xs[xs.length - 1] (by simp [hx])
        have h3 := (Array.getElem?_eq_some_iff.1 this).1
        simp only at h3
        omega
      refine hS.loadS (hI _ hc) ht hn ?_ (by omega)
      apply List.ext_getElem?
      intro j
      rw [List.getElem?_take, List.getElem?_take]
      split
      · rename_i hj
        rw [List.getElem?_drop, List.getElem?_drop]
        have hx : i * sz + j < xs.length := by omega
        have := hv (i * sz + j) xs[i * sz + j] (by simp [hx])
        simp only at this
        rw [← Nat.add_assoc] at this
        simpa [hx] using this
      · rfl

theorem chV_at (bs : List Nat) : ∀ (l : List MChange) (i : Nat) (c : MChange), l[i]? = some c → ((l.flatMap (chV bs)).drop (i * 3)).take 3 = chV bs c
  | [], _, _, h => by simp at h
  | x :: l, 0, c, h => by
    simp at h
    subst h
    simp [chV]
  | x :: l, i + 1, c, h => by
    have h' : l[i]? = some c := by simpa using h
    have := chV_at bs l i c h'
    rw [← this]
    have e : (i + 1) * 3 = i * 3 + 3 := by omega
    rw [e]
    simp [chV]

/-! ### What is held -/
theorem bs_nodup : ∀ {fs : List FRec}, (∀ b, ms (at1 b) (fs.map fChunk) ≤ 1) → (fs.map (·.b)).Nodup
  | [], _ => List.nodup_nil
  | r :: fs, h => by
    rw [List.map_cons, List.nodup_cons]
    refine ⟨fun hm => ?_, bs_nodup fun b => ?_⟩
    · obtain ⟨r', hr', he⟩ := List.mem_map.1 hm
      have h1 := h r.b
      have h2 := ms_pos (f := at1 r.b) (List.mem_map.2 ⟨r', hr', rfl⟩ : fChunk r' ∈ fs.map fChunk)
      rw [List.map_cons, ms_cons] at h1
      have e1 : at1 r.b (fChunk r) = 1 := by simp [at1, fChunk]
      have e2 : at1 r.b (fChunk r') = 1 := by simp [at1, fChunk, he]
      omega
    · have := h b
      rw [List.map_cons, ms_cons] at this
      omega

theorem DS.nodup {E w : World} {L : List Chunk} {M : MDisk} {D : DS} {d : Nat} (hS : Sep E w (D.chunks M d ++ L)) : D.bs.Nodup := by
  refine bs_nodup fun b => ?_
  have := hS.uniq b
  simp only [DS.chunks, ms_append, ms_cons, ms_nil] at this
  omega

theorem filePtr_inj {bs : List Nat} (hn : bs.Nodup) {i j : Nat} (hi : i < bs.length) (h : filePtr bs i = filePtr bs j) : i = j := by
  rw [filePtr_some hi] at h
  unfold filePtr at h
  cases hj : bs[j]? with
  | none => rw [hj] at h; cases h
  | some b =>
    rw [hj] at h
    simp only [Option.map_some, Option.some.injEq, Addr.mk.injEq, and_true] at h
    subst h
    obtain ⟨hj1, hj2⟩ := List.getElem?_eq_some_iff.1 hj
    rcases Nat.lt_trichotomy i j with hlt | h | hgt
    · exact absurd hj2.symm (List.pairwise_iff_getElem.1 hn i j hi hj1 hlt)
    · exact h
    · exact absurd hj2 (List.pairwise_iff_getElem.1 hn j i hj1 hi hgt)

/-- The bytes of a block's file. -/
def lenAt : List FRec → Nat → Nat
  | [], _ => 0
  | r :: fs, b => if r.b = b then r.f.bytes.length else lenAt fs b

theorem lenAt_of {fs : List FRec} {r : FRec} (hn : (fs.map (·.b)).Nodup) (h : r ∈ fs) : lenAt fs r.b = r.f.bytes.length := by
  induction fs with
  | nil => cases h
  | cons x fs ih =>
    rw [List.map_cons, List.nodup_cons] at hn
    unfold lenAt
    rcases List.mem_cons.1 h with rfl | h'
    · simp
    · have : ¬ x.b = r.b := fun e => hn.1 (e ▸ List.mem_map.2 ⟨r, h', rfl⟩)
      rw [if_neg this]
      exact ih hn.2 h'

/-- A sum over blocks, each once, is the sum over the files that are among them. -/
theorem sum_held (fs : List FRec) (hn : (fs.map (·.b)).Nodup) (ks : List Nat) (hk : ks.Nodup) (hs : ∀ b ∈ ks, b ∈ fs.map (·.b)) : ms (lenAt fs) ks = ms (fun r => if r.b ∈ ks then r.f.bytes.length else 0) fs := by
  have hp : ks.Perm ((fs.map (·.b)).filter fun b => decide (b ∈ ks)) := by
    rw [List.perm_ext_iff_of_nodup hk (hn.filter _)]
    intro b
    rw [List.mem_filter]
    constructor
    · intro h
      exact ⟨hs b h, by simpa using h⟩
    · rintro ⟨_, h⟩
      simpa using h
  rw [ms_perm _ hp]
  have key : ∀ gs : List FRec, (∀ r ∈ gs, r ∈ fs) → ms (lenAt fs) ((gs.map (·.b)).filter fun b => decide (b ∈ ks)) = ms (fun r => if r.b ∈ ks then r.f.bytes.length else 0) gs := by
    intro gs
    induction gs with
    | nil => intro _; rfl
    | cons r gs ih =>
      intro h
      have hr := h r List.mem_cons_self
      have hrest := ih fun x hx => h x (List.mem_cons_of_mem _ hx)
      rw [List.map_cons, List.filter_cons, ms_cons, ← hrest]
      by_cases hb : r.b ∈ ks
      · simp only [hb, decide_true, if_true, ms_cons, lenAt_of hn hr]
      · simp [hb]
  exact key fs fun r hr => hr

theorem usedTo_ms (M : MDisk) : ∀ (fs : List FRec) (i : Nat) (p : FRec → Prop) [DecidablePred p], (∀ (j : Nat) (r : FRec), fs[j]? = some r → (p r ↔ M.holds (i + j) = true)) → M.usedTo i (fs.map (·.f)) = ms (fun r => if p r then r.f.bytes.length else 0) fs
  | [], _, _, _, _ => rfl
  | r :: fs, i, p, _, h => by
    have h0 : p r ↔ M.holds i = true := h 0 r rfl
    have hr := usedTo_ms M fs (i + 1) p fun j r' hr' => by
      have := h (j + 1) r' (by simpa using hr')
      rw [show i + 1 + j = i + (j + 1) by omega]
      exact this
    rw [List.map_cons, MDisk.usedTo, hr, ms_cons]
    by_cases hp : p r
    · rw [if_pos hp, if_pos (h0.1 hp)]
    · rw [if_neg hp, if_neg fun e => hp (h0.2 e)]

theorem holds_iff (M : MDisk) (i : Nat) : M.holds i = true ↔ (∃ x ∈ M.kept, x.2 = i) ∨ ∃ c ∈ M.changes, c.new ≠ noName ∧ c.file = i := by
  simp [MDisk.holds, List.any_eq_true]

end Go.Proofs.Ytonjaaljnjjjcaa
