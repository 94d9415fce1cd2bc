/- What the arguments are: slices, bytes, lists of bytes. Conditions: as each lemma says. -/
import Derived.Test.YtonjaaljnjjjcaaK1
import Derived.ChangeArms
set_option linter.unusedVariables false
set_option linter.unusedSimpArgs false
namespace Go.Proofs.Ytonjaaljnjjjcaa
open Go Go.RowKit

section
variable {H : Type} {enc : TypeId × Value → H} {w : World} {fuel : Nat} {x : DataW H × List MemPlace}

noncomputable abbrev trod0 (enc : TypeId × Value → H) (w : World) (fuel : Nat) (t : TypeId) (cs : List Value) : Option (DataW H × List MemPlace) := DataW.trod enc Pr w 0 (fun _ => true) true fuel t cs

theorem whole_mem {w : World} {b : Nat} {o : Obj} (h : w.heap[b]? = some o) : (b, o) ∈ whole w := by
  have hb := (Array.getElem?_eq_some_iff.1 h).1
  refine List.mem_map.2 ⟨b, List.mem_range.2 hb, ?_⟩
  have : w.heap.getD b default = o := by
    rw [Array.getD_eq_getD_getElem?, h]
    rfl
  rw [this]

theorem add_add (a : Addr) (m n : Nat) : (a.add m).add n = a.add (m + n) := by
  unfold Addr.add
  by_cases hm : m = 0
  · subst hm; simp
  · by_cases hn : n = 0
    · subst hn; simp [hm]
    · have : ¬ m + n = 0 := by omega
      simp [hm, hn, Nat.add_assoc]

theorem mapM_get {α β : Type} {f : α → Option β} : ∀ {l : List α} {m : List β}, l.mapM f = some m → m.length = l.length ∧ ∀ (i : Nat) (a : α), l[i]? = some a → m[i]? = f a
  | [], m, h => by
    simp at h
    subst h
    simp
  | x :: l, m, h => by
    rw [List.mapM_cons] at h
    cases hx : f x with
    | none => simp [hx] at h
    | some y =>
      cases hl : l.mapM f with
      | none => simp [hx, hl] at h
      | some m' =>
        simp [hx, hl] at h
        subst h
        obtain ⟨h1, h2⟩ := mapM_get hl
        refine ⟨by simp [h1], fun i a hi => ?_⟩
        cases i with
        | zero => simp at hi; subst hi; simp [hx]
        | succ i => simpa using h2 i a (by simpa using hi)

theorem cells_get {a : Addr} {n : Nat} {cs : List Value} (h : w.cells? 0 a n = some cs) : cs.length = n ∧ ∀ j, j < n → w.cell? (a.add j) = cs[j]? := by
  unfold World.cells? at h
  rw [if_pos (Nat.zero_le _)] at h
  obtain ⟨h1, h2⟩ := mapM_get h
  exact ⟨by simpa using h1, fun j hj => (h2 j j (by simp [hj])).symm⟩

theorem cell_at {a : Addr} {v : Value} (h : w.cell? a = some v) : a.spot = none ∧ ∃ cs T fr, w.heap[a.block]? = some (.cells cs T fr) ∧ cs[a.off]? = some v := by
  unfold World.cell? at h
  split at h
  · rename_i cs T fr hc
    split at h
    · cases h
    · rename_i hs
      exact ⟨by simpa using hs, cs, T, fr, hc, h⟩
  · cases h

/-- A slice among the arguments. -/
theorem arg_slice {t e sz : TypeId} (ht : Pr.underlying t = some (.slice e)) (hsz : Pr.cellsOf e = sz) (h0 : 0 < sz) {v : Value} (h : trod0 enc w fuel t [v] = some x) :
    ∃ (s : SV) (xs : List Value), v = .slice s.a s.len s.cap ∧ RdS (whole w) sz s xs ∧ s.len ≤ maxLen ∧ ∀ i, i < s.len → ∃ n y, trod0 enc w n e ((xs.drop (i * sz)).take sz) = some y := by
  rcases DataW.trod_slice ht h with ⟨hc, _⟩ | ⟨a, len, cap, elems, rest, n, rfl, hc, _, _, h1, h2, h3, h4, _, _⟩
  · injection hc with hc
    subst hc
    exact ⟨SV.nil, [], rfl, RdS.none _ _, Nat.zero_le _, fun i hi => absurd hi (Nat.not_lt_zero i)⟩
  · injection hc with hc
    subst hc
    subst hsz
    generalize hz : Pr.cellsOf e = sz at *
    -- each element's cells
    have hel : ∀ i, i < len → ∃ cs y, w.cells? 0 (a.add (i * sz)) sz = some cs ∧ trod0 enc w n e cs = some y := fun i hi => by
      have := h4 i hi
      have hi' : i < elems.length := by omega
      rw [List.getElem?_eq_getElem hi'] at this
      obtain ⟨cs, hcs, ht⟩ := Option.bind_eq_some_iff.1 this
      exact ⟨cs, _, hcs, ht⟩
    let xs : List Value := (List.range (len * sz)).map fun j => (w.cell? (a.add j)).getD undef
    have hcell : ∀ j, j < len * sz → ∃ v, w.cell? (a.add j) = some v ∧ xs[j]? = some v := fun j hj => by
      have hi : j / sz < len := (Nat.div_lt_iff_lt_mul h0).2 hj
      obtain ⟨cs, y, hcs, _⟩ := hel _ hi
      obtain ⟨hl, hg⟩ := cells_get hcs
      have hm := Nat.mod_lt j h0
      have := hg (j % sz) hm
      rw [add_add, Nat.mul_comm, Nat.div_add_mod, List.getElem?_eq_getElem (by omega)] at this
      refine ⟨_, this, ?_⟩
      simp [xs, hj, this]
    refine ⟨⟨some a, len, cap⟩, xs, rfl, ⟨by simp [xs], h1, (fun h => by cases h), fun b hb => ?_⟩, Nat.le_trans h1 h2, fun i hi => ?_⟩
    · injection hb with hb
      subst hb
      rcases Nat.eq_zero_or_pos len with hl0 | hl0
      · exact .inl hl0
      · refine .inr ?_
        have hpos : 0 < len * sz := Nat.mul_pos hl0 h0
        obtain ⟨v0, hv0, _⟩ := hcell 0 hpos
        have ha0 : a.add 0 = a := by simp [Addr.add]
        rw [ha0] at hv0
        obtain ⟨hsp, cs, T, fr, hb, _⟩ := cell_at hv0
        refine ⟨hsp, cs, T, fr, whole_mem hb, fun j u hu => ?_⟩
        have hj : j < len * sz := by
          have := (List.getElem?_eq_some_iff.1 hu).1
          simpa [xs] using this
        obtain ⟨v, hv, hxv⟩ := hcell j hj
        have : u = v := Option.some.inj (hu.symm.trans hxv)
        subst this
        obtain ⟨bb, bo, bs⟩ := a
        simp only at hsp
        subst hsp
        rw [addr_add] at hv
        obtain ⟨_, cs', T', fr', hb', hv'⟩ := cell_at hv
        simp only at hb' hv' hb ⊢
        have : Obj.cells cs T fr = Obj.cells cs' T' fr' := Option.some.inj (hb.symm.trans hb')
        have h1 := (Obj.cells.inj this).1
        rw [h1]
        exact hv'
    · have hi : i < len := hi
      obtain ⟨cs, y, hcs, hy⟩ := hel i hi
      obtain ⟨hl, hg⟩ := cells_get hcs
      refine ⟨n, y, ?_⟩
      have : (xs.drop (i * sz)).take sz = cs := by
        apply List.ext_getElem?
        intro j
        rw [List.getElem?_take]
        split
        · rename_i hj
          rw [List.getElem?_drop]
          have hlt : i * sz + j < len * sz := by
            have : (i + 1) * sz ≤ len * sz := Nat.mul_le_mul_right _ (by omega)
            rw [Nat.succ_mul] at this
            omega
          obtain ⟨v, hv, hxv⟩ := hcell _ hlt
          rw [hxv, ← hv, ← add_add]
          exact hg j hj
        · rename_i hj
          exact (List.getElem?_eq_none (by omega)).symm
      rw [this]
      exact hy

/-- A list out of what stands at each place. -/
theorem list_of {α β : Type} {R : α → β → Prop} : ∀ (l : List α), (∀ i (h : i < l.length), ∃ b, R l[i] b) → ∃ m : List β, m.length = l.length ∧ ∀ i (h : i < l.length) (h' : i < m.length), R l[i] m[i]
  | [], _ => ⟨[], rfl, fun i h => absurd h (Nat.not_lt_zero i)⟩
  | a :: l, h => by
    obtain ⟨b, hb⟩ := h 0 (by simp)
    obtain ⟨m, h1, h2⟩ := list_of l fun i hi => by
      have := h (i + 1) (by simpa using hi)
      simpa using this
    refine ⟨b :: m, by simp [h1], fun i hi hi' => ?_⟩
    cases i with
    | zero => simpa using hb
    | succ i => simpa using h2 i (by simpa using hi) (by simpa using hi')

theorem u5 : Pr.underlying 5 = some (.int .u8) := by kernel_rfl
theorem u26 : Pr.underlying 26 = some (.slice 5) := by kernel_rfl
theorem u22 : Pr.underlying 22 = some (.slice 26) := by kernel_rfl
theorem c5 : Pr.cellsOf 5 = 1 := by kernel_rfl
theorem c26 : Pr.cellsOf 26 = 1 := by kernel_rfl

/-- Bytes among the arguments. -/
theorem arg_bytes {v : Value} (h : trod0 enc w fuel 26 [v] = some x) : ∃ (s : SV) (l : List UInt8), v = .slice s.a s.len s.cap ∧ RdB (whole w) s l ∧ l.length ≤ maxLen := by
  obtain ⟨s, xs, rfl, hr, hm, hel⟩ := arg_slice u26 c5 (by decide) h
  have hlen := hr.len1
  obtain ⟨l, h1, h2⟩ := list_of (R := fun v (b : UInt8) => v = byteV b) xs fun i hi => by
    obtain ⟨n, y, hy⟩ := hel i (by omega)
    have e : (xs.drop (i * 1)).take 1 = [xs[i]] := by
      rw [Nat.mul_one, List.drop_eq_getElem_cons hi]
      rfl
    rw [e] at hy
    obtain ⟨m, hm, _, hw⟩ := DataW.trod_int u5 hy
    injection hm with hm
    have hlo : (0 : Int) ≤ m ∧ m ≤ 255 := by
      simp only [Lit.wf, Bool.and_eq_true, decide_eq_true_eq] at hw
      exact hw
    refine ⟨UInt8.ofNat m.toNat, ?_⟩
    rw [hm]
    unfold byteV
    rw [UInt8.toNat_ofNat']
    congr 1
    omega
  have : xs = l.map byteV := by
    apply List.ext_getElem
    · simp [h1]
    · intro i hi hi'
      rw [List.getElem_map]
      exact h2 i hi (by omega)
  subst this
  refine ⟨s, l, rfl, hr, ?_⟩
  rw [List.length_map] at hlen
  omega

/-- Lists of bytes among the arguments. -/
theorem arg_list {v : Value} (h : trod0 enc w fuel 22 [v] = some x) : ∃ (s : SV) (ls : List (List UInt8)), v = .slice s.a s.len s.cap ∧ RdL (whole w) s ls ∧ ls.length ≤ maxLen := by
  obtain ⟨s, xs, rfl, hr, hm, hel⟩ := arg_slice u22 c26 (by decide) h
  have hlen := hr.len1
  obtain ⟨l, h1, h2⟩ := list_of (R := fun v (b : SV × List UInt8) => v = slV b.1 ∧ RdB (whole w) b.1 b.2) xs fun i hi => by
    obtain ⟨n, y, hy⟩ := hel i (by omega)
    have e : (xs.drop (i * 1)).take 1 = [xs[i]] := by
      rw [Nat.mul_one, List.drop_eq_getElem_cons hi]
      rfl
    rw [e] at hy
    obtain ⟨s, l, h1, h2, _⟩ := arg_bytes hy
    exact ⟨(s, l), h1, h2⟩
  have : xs = (l.map (·.1)).map slV := by
    apply List.ext_getElem
    · simp [h1]
    · intro i hi hi'
      rw [List.getElem_map, List.getElem_map]
      exact (h2 i hi (by omega)).1
  subst this
  refine ⟨s, l.map (·.2), rfl, ⟨l.map (·.1), hr, by simp, fun i s' l' hs hl => ?_⟩, ?_⟩
  · rw [List.getElem?_map, Option.map_eq_some_iff] at hs hl
    obtain ⟨p, hp, rfl⟩ := hs
    obtain ⟨q, hq, rfl⟩ := hl
    have : p = q := Option.some.inj (hp.symm.trans hq)
    subst this
    obtain ⟨hi, rfl⟩ := List.getElem?_eq_some_iff.1 hp
    exact (h2 i (by simpa using hi) hi).2
  · have := hr.len1
    simp only [List.length_map] at this ⊢
    omega
end

end Go.Proofs.Ytonjaaljnjjjcaa
