/- What the operations on cells do to a heap assertion: loads, stores, boxes, slices' literals, make, append, copy. Conditions: as each lemma says. -/
import Derived.Test.YtonjaaljnjjjcaaS1
import Derived.Maps.AppendAt
import Derived.OwnWalk
set_option linter.unusedVariables false
set_option linter.unusedSimpArgs false
namespace Go.Proofs.Ytonjaaljnjjjcaa
open Go Go.RowKit

theorem addr_add (b o n : Nat) : (⟨b, o, none⟩ : Addr).add n = ⟨b, o + n, none⟩ := by
  unfold Addr.add
  split <;> simp_all

/-! ### What is read of the types -/
structure TI (t T sz bytes : Nat) (z : Value) : Prop where
  und : Pr.underlying t = some (.slice T)
  info : (Pr.info? T).map (fun i => (i.zero, i.size, i.bytes)) = some (some z, sz, bytes)
  zs : z.cells.size = sz
  pos : 0 < sz

theorem run_sizeOf_of {t n : Nat} (h : sizeOf? Pr t = some n) (w : World) : (sizeOf t).run Pr w = .ok n w := run_sizeOf? h w

/-! ### Loads of structs -/
theorem Sep.loadN {E w : World} {L : List Chunk} (h : Sep E w L) {b : Nat} {cs : Array Value} {T : TypeId} {fr : Nat × Nat} (hc : (b, Obj.cells cs T fr) ∈ L) (o : Nat) :
    ∀ (n i : Nat) (acc : Array Value), o + i + n ≤ cs.size → (loadCellsFrom ⟨b, o, none⟩ i n acc).run Pr w = .ok (acc ++ ((cs.toList.drop (o + i)).take n).toArray) w
  | 0, i, acc, _ => by simp [loadCellsFrom]
  | n + 1, i, acc, hl => by
    have hi : o + i < cs.size := by omega
    have hcell := cell_of h hc (o := o + i) (v := cs[o + i]) (by simp [hi])
    have hd : cs.toList.drop (o + i) = cs[o + i] :: cs.toList.drop (o + (i + 1)) := by
      rw [List.drop_eq_getElem_cons (by simpa using hi)]
      rfl
    rw [loadCellsFrom]
    simp only [Sem.run_bind, addr_add, run_load, hcell, Result.andThen_ok]
    rw [Sep.loadN h hc o n (i + 1) _ (by omega), hd]
    congr 1
    simp

def structT (P : Program) (t : TypeId) : Bool := match P.underlying t with
  | some (.struct _) | some (.array _ _) => true
  | _ => false

theorem run_isAgg_struct {P : Program} {t : TypeId} (h : structT P t = true) (w : World) : (isAgg t).run P w = .ok true w := by
  unfold structT at h
  cases hu : P.underlying t with
  | none => simp [hu] at h
  | some d => cases d <;> simp [hu] at h <;> simp [isAgg, run_underlying hu]

theorem Sep.loadS {E w : World} {L : List Chunk} (h : Sep E w L) {b : Nat} {cs : Array Value} {T : TypeId} {fr : Nat × Nat} (hc : (b, Obj.cells cs T fr) ∈ L) {o n : Nat} {vs : List Value}
    {t : TypeId} (ht : structT Pr t = true) (hn : sizeOf? Pr t = some n) (hv : (cs.toList.drop o).take n = vs) (hle : o + n ≤ cs.size) : At Pr w (loadVar t ⟨b, o, none⟩) (.agg vs.toArray) := by
  unfold At loadVar
  simp only [Sem.run_bind, run_isAgg_struct ht, Result.andThen_ok, if_true, loadCells, run_sizeOf_of hn]
  rw [Sep.loadN h hc o n 0 #[] hle]
  simp [hv]

/-! ### Stores -/
def spl (cs : List Value) (o : Nat) (vs : List Value) : List Value := cs.take o ++ vs ++ cs.drop (o + vs.length)

theorem Sep.setRow {E w : World} {L : List Chunk} {b : Nat} {cs : Array Value} {T : TypeId} {fr : Nat × Nat} (h : Sep E w ((b, .cells cs T fr) :: L)) (cs' : Array Value) :
    Sep E (w.setRow b cs') ((b, .cells cs' T fr) :: L) := by
  have hb : w.heap[b]? = some (.cells cs T fr) := h.at_ _ List.mem_cons_self
  exact h.turn rfl rfl rfl (setRow_heap w b cs cs' T fr hb) (fun i hi => setRow_other w b i cs' hi)

theorem Sep.store {E w : World} {L : List Chunk} {b : Nat} {cs : List Value} {T : TypeId} (h : Sep E w ((b, .cells cs.toArray T (0, 0)) :: L)) {o n : Nat} {v : Value} {t : TypeId}
    (hn : sizeOf? Pr t = some n) (hv : v.cells.size = n) (hle : o + n ≤ cs.length) (h1 : ∀ u ∈ v.cells.toList, u.oneCell' = true) :
    ∃ w', Sem.run Pr (Instr.storeAt t (.pointer (some ⟨b, o, none⟩)) v) w = .ok () w' ∧ Sep E w' ((b, .cells (spl cs o v.cells.toList).toArray T (0, 0)) :: L) := by
  refine ⟨_, ?_, h.setRow _⟩
  have hb : w.heap[b]? = some (.cells cs.toArray T (0, 0)) := h.at_ _ List.mem_cons_self
  have := run_storeCells_at Pr b o T v.cells.toList 0 cs.toArray w hb (by simpa [hv] using hle) h1
  simp only [Instr.storeAt, Instr.sureAddr, storeVar, pure_bind, Sem.run_bind, run_sizeOf_of hn, Result.andThen_ok, hv, ne_eq, not_true_eq_false, if_false]
  simpa [spl] using this

/-! ### New blocks -/
theorem Sep.newVar {E w : World} {L : List Chunk} (h : Sep E w L) {t : TypeId} {v : Value} :
    ∃ b w', Sem.run Pr (Instr.box t v) w = .ok (.pointer (some ⟨b, 0, none⟩)) w' ∧ Sep E w' ((b, .cells v.cells t (0, 0)) :: L) := by
  refine ⟨w.heap.size, _, ?_, h.push _⟩
  simp [Instr.box, Go.newVar, Go.newRow]

theorem Sep.alloc {E w : World} {L : List Chunk} (h : Sep E w L) {t : TypeId} {z : Value} (hz : (Pr.info? t).bind (·.zero) = some z) :
    ∃ b w', Sem.run Pr (Instr.alloc t true (.tuple #[])) w = .ok (.pointer (some ⟨b, 0, none⟩)) w' ∧ Sep E w' ((b, .cells z.cells t (0, 0)) :: L) := by
  refine ⟨w.heap.size, _, ?_, h.push _⟩
  cases hi : Pr.info? t with
  | none => simp [hi] at hz
  | some i =>
    simp [hi] at hz
    simp [Instr.alloc, zeroValue, typeInfo, hi, hz, Go.newVar, Go.newRow]

/-- What a slice's literal holds. -/
def bsV (P : Program) (t len : Nat) (parts : List (Nat × Value)) : Option (List Value) :=
  match P.underlying t with
  | some (.slice e) => match sizeOf? P e, (P.info? e).bind (·.zero) with
    | some n, some z => match Nat.ble (len * n) 16777216 with
      | true => fillL (fun i => some (i * n, n)) ((List.range (len * n)).map fun i => z.cells[i % z.cells.size]!) parts
      | false => none
    | _, _ => none
  | _ => none

theorem Sep.buildSlice {E w : World} {L : List Chunk} (h : Sep E w L) {t T len : Nat} {parts : List (Nat × Value)} {vs : List Value} (hu : Pr.underlying t = some (.slice T)) (hv : bsV Pr t len parts = some vs) :
    ∃ b w', Sem.run Pr (Instr.buildSlice t len parts.toArray) w = .ok (.slice (some ⟨b, 0, none⟩) len len) w' ∧ Sep E w' ((b, .cells vs.toArray T (0, 0)) :: L) := by
  refine ⟨w.heap.size, _, ?_, h.push _⟩
  unfold bsV at hv
  simp only [hu] at hv
  cases hn : sizeOf? Pr T with
  | none => simp [hn] at hv
  | some n =>
    cases hz : (Pr.info? T).bind (·.zero) with
    | none => simp [hn, hz] at hv
    | some z =>
      simp only [hn, hz] at hv
      cases hb : Nat.ble (len * n) 16777216 with
      | false => simp [hb] at hv
      | true =>
        simp only [hb] at hv
        have hb := Nat.le_of_ble_eq_true hb
        have hf := fillL_sound _ _ _ hv
        cases hi : Pr.info? T with
        | none => simp [hi] at hz
        | some i =>
          have hz' : i.zero = some z := by simpa [hi] using hz
          have hzero : (Array.range (len * n)).map (fun k => z.cells[k % z.cells.size]!) = (((List.range (len * n)).map fun k => z.cells[k % z.cells.size]!)).toArray := by
            apply Array.ext'
            simp
          have hrz : (zeroValue T).run Pr w = .ok z w := by simp [zeroValue, typeInfo, hi, hz']
          simp only [Instr.buildSlice, Sem.run_bind, run_underlying hu, Result.andThen_ok, run_sizeOf_of hn]
          rw [if_neg (by omega)]
          by_cases h0 : len * n = 0
          · have hf0 : Instr.fill (fun i => some (i * n, n)) #[] parts = some vs.toArray := by simpa [h0] using hf
            simp [h0, show Array.range 0 = #[] from rfl, hf0, newRow]
          · simp only [h0, if_false, Sem.run_bind, Sem.run_pure, hrz, Result.andThen_ok]
            have hf' : Instr.fill (fun i => some (i * n, n)) ((Array.range (len * n)).map (fun k => z.cells[k % z.cells.size]!)) parts = some vs.toArray := by rw [hzero]; exact hf
            simp [hf', newRow]

/-- The zeros of n elements. -/
def zerosL (z : Value) (n : Nat) : List Value := (List.range n).map fun i => z.cells[i % z.cells.size]!

theorem Sep.makeSlice {E w : World} {L : List Chunk} (h : Sep E w L) {t T sz bytes : Nat} {z : Value} (ti : TI t T sz bytes z) {n : Nat} (hb : bytes * n ≤ 281474976710656) (hn : n ≤ 9223372036854775807) :
    ∃ b w', Sem.run Pr (Instr.makeSlice t (.int .i64 (n : Int)) (.int .i64 (n : Int))) w = .ok (.slice (some ⟨b, 0, none⟩) n n) w' ∧ Sep E w' ((b, .cells (zerosL z (n * sz)).toArray T (0, 0)) :: L) := by
  obtain ⟨i, hi, hz, hsz, hby⟩ := info_parts ti.info
  refine ⟨w.heap.size, _, ?_, h.push _⟩
  have hw : IntKind.i64.wrap (n : Int) = (n : Int) := by rw [IntKind.wrap_i64]; omega
  have hbi : ¬ ((bytes : Int) * (n : Int) > 2 ^ 48) := by
    have h : ((bytes * n : Nat) : Int) ≤ 281474976710656 := by omega
    rw [Int.natCast_mul] at h
    have e : (2 : Int) ^ 48 = 281474976710656 := by decide
    rw [e]
    omega
  have hn0 : ¬ ((n : Int) < 0) := by omega
  have hrz : (zeroValue T).run Pr w = .ok z w := by simp [zeroValue, typeInfo, hi, hz]
  have hzero : (Array.range (n * sz)).map (fun k => z.cells[k % z.cells.size]!) = (zerosL z (n * sz)).toArray := by
    apply Array.ext'
    simp [zerosL]
  simp only [Instr.makeSlice, Sem.run_bind, run_underlying ti.und, Result.andThen_ok, asInt, asIntOf, Sem.run_pure, typeInfo, run_program, hi, hw, hby, hn0, hbi, decide_false, Bool.or_self, if_false, Int.lt_irrefl, gt_iff_lt, Bool.false_eq_true, run_askRoom, sizeOf, hsz, Int.toNat_natCast]
  by_cases h0 : n * sz = 0
  · simp [h0, show Array.range 0 = #[] from rfl, newRow, zerosL]
  · simp only [h0, if_false, Sem.run_bind, hrz, Result.andThen_ok, Sem.run_pure, hzero]
    simp [newRow]

/-! ### Slices of the call's own -/
structure Own (T sz : Nat) (s : SV) (vs : List Value) (L : List Chunk) : Prop where
  len : vs.length = s.len * sz
  form : (s.a = none ∧ s.len = 0 ∧ s.cap = 0 ∧ L = []) ∨ ∃ g cur, s.a = some ⟨g, 0, none⟩ ∧ L = [(g, .cells cur T (0, 0))] ∧ s.len ≤ s.cap ∧ s.cap ≤ maxLen ∧ cur.size = s.cap * sz ∧ cur.toList.take (s.len * sz) = vs

def SV.nil : SV := ⟨none, 0, 0⟩

theorem Own.nil (T sz : Nat) : Own T sz SV.nil [] [] := ⟨by simp [SV.nil], .inl ⟨rfl, rfl, rfl, rfl⟩⟩

theorem Own.new {T sz : Nat} {g n : Nat} {vs : List Value} (hl : vs.length = n * sz) (hn : n ≤ maxLen) : Own T sz ⟨some ⟨g, 0, none⟩, n, n⟩ vs [(g, .cells vs.toArray T (0, 0))] :=
  ⟨hl, .inr ⟨g, vs.toArray, rfl, rfl, Nat.le_refl _, hn, by simpa using hl, by simp only [← hl]; exact List.take_length⟩⟩

/-- What a slice reads in w. -/
structure Src (w : World) (sz : Nat) (s : SV) (xs : List Value) : Prop where
  len : xs.length = s.len * sz
  nil : s.a = none → s.len = 0
  at_ : ∀ a, s.a = some a → ∀ j u, xs[j]? = some u → w.cell? (a.add j) = some u

/-- What a slice reads out of blocks that stay as they are. -/
structure RdS (I : List Chunk) (sz : Nat) (s : SV) (xs : List Value) : Prop where
  len : xs.length = s.len * sz
  cap : s.len ≤ s.cap
  nil : s.a = none → s.len = 0
  at_ : ∀ a, s.a = some a → s.len = 0 ∨ (a.spot = none ∧ ∃ cs T fr, (a.block, Obj.cells cs T fr) ∈ I ∧ ∀ j u, xs[j]? = some u → cs[a.off + j]? = some u)

theorem RdS.mono {I I' : List Chunk} {sz : Nat} {s : SV} {xs : List Value} (h : RdS I sz s xs) (hI : ∀ c ∈ I, c ∈ I') : RdS I' sz s xs :=
  ⟨h.len, h.cap, h.nil, fun a ha => by
    refine (h.at_ a ha).imp id ?_
    rintro ⟨h1, cs, T, fr, hc, hv⟩
    exact ⟨h1, cs, T, fr, hI _ hc, hv⟩⟩

theorem RdS.src {I L : List Chunk} {E w : World} {sz : Nat} {s : SV} {xs : List Value} (h : RdS I sz s xs) (hS : Sep E w L) (hI : ∀ c ∈ I, c ∈ L) : Src w sz s xs :=
  ⟨h.len, h.nil, fun a ha j u hu => by
    rcases h.at_ a ha with h0 | ⟨h1, cs, T, fr, hc, hv⟩
    · have : xs = [] := List.eq_nil_of_length_eq_zero (by rw [h.len, h0, Nat.zero_mul])
      subst this
      cases hu
    · obtain ⟨b, o, sp⟩ := a
      simp only at h1
      subst h1
      rw [addr_add]
      exact cell_of hS (hI _ hc) (hv j u hu)⟩

theorem Own.rds {T sz : Nat} {s : SV} {vs : List Value} {L : List Chunk} (h : Own T sz s vs L) : RdS L sz s vs := by
  rcases h.form with ⟨h1, h2, h3, rfl⟩ | ⟨g, cur, h1, rfl, h2, h3, h4, h5⟩
  · exact ⟨h.len, by omega, fun _ => h2, fun a ha => by rw [h1] at ha; cases ha⟩
  · refine ⟨h.len, h2, fun ha => (by rw [h1] at ha; cases ha), fun a ha => ?_⟩
    rw [h1] at ha
    injection ha with ha
    subst ha
    refine .inr ⟨rfl, cur, T, (0, 0), List.mem_cons_self, fun j u hu => ?_⟩
    rw [← h5, List.getElem?_take] at hu
    split at hu
    · simpa using hu
    · cases hu

theorem Own.owns {T sz : Nat} {s : SV} {vs : List Value} {L F : List Chunk} {E w : World} (h : Own T sz s vs L) (hS : Sep E w (L ++ F)) : w.ownsRow 0 T sz (.slice s.a s.len s.cap) s.len vs := by
  refine ⟨h.len, ?_⟩
  rcases h.form with ⟨h1, h2, h3, rfl⟩ | ⟨g, cur, h1, rfl, h2, h3, h4, h5⟩
  · exact .inl ⟨by rw [h1, h2, h3], h2⟩
  · exact .inr ⟨g, s.cap, cur, by rw [h1], Nat.zero_le _, hS.at_ (g, .cells cur T (0, 0)) (by simp), h2, h3, h4, h5⟩

theorem Own.of_owns {T sz : Nat} {v : Value} {n : Nat} {vs : List Value} {w : World} (h : w.ownsRow 0 T sz v n vs) :
    ∃ (s : SV) (L : List Chunk), v = .slice s.a s.len s.cap ∧ s.len = n ∧ Own T sz s vs L ∧ ((v.ownBlock = none ∧ L = []) ∨ ∃ g o, v.ownBlock = some g ∧ L = [(g, o)] ∧ w.heap[g]? = some o) := by
  rcases h.2 with ⟨rfl, rfl⟩ | ⟨g, cap, cur, rfl, _, h1, h2, h3, h4, h5⟩
  · exact ⟨SV.nil, [], rfl, rfl, ⟨by simpa [SV.nil] using h.1, .inl ⟨rfl, rfl, rfl, rfl⟩⟩, .inl ⟨rfl, rfl⟩⟩
  · exact ⟨⟨some ⟨g, 0, none⟩, n, cap⟩, _, rfl, rfl, ⟨h.1, .inr ⟨g, cur, rfl, rfl, h2, h3, h4, h5⟩⟩, .inr ⟨g, _, rfl, rfl, h1⟩⟩

theorem run_append_src {w : World} {t ty T sz bytes : Nat} {z : Value} (ti : TI t T sz bytes z) {v : Value} {n : Nat} {vs xs : List Value} {x : SV} (hown : w.ownsRow 0 T sz v n vs) (hx : Src w sz x xs) (h1 : ∀ u ∈ xs, u.oneCell' = true)
    (hb : (n + x.len) * bytes ≤ 140737488355328) (hm : n + x.len ≤ maxLen) :
    ∃ v' w', (Builtin.append_ #[t, t] ty #[v, .slice x.a x.len x.cap]).run Pr w = .ok v' w' ∧ w'.ownsRow 0 T sz v' (n + x.len) (vs ++ xs) ∧ w.grownBy w' v.ownBlock ∧ (v'.ownBlock = v.ownBlock ∨ v'.ownBlock = some w.heap.size) := by
  obtain ⟨i, hi, hz, hsz, hby⟩ := info_parts ti.info
  obtain ⟨xa, xl, xc⟩ := x
  cases xa with
  | some a =>
    obtain ⟨v', w', hr, h2, h3, _, h4⟩ := run_append_own_at (P := Pr) w 0 t ty T i z sz bytes ti.und hi hz hsz hby ti.zs ti.pos v n vs hown a xl xc xs hx.len (hx.at_ a rfl) h1 hm hb (Nat.zero_le _)
    exact ⟨v', w', hr, h2, h3, h4⟩
  | none =>
    have hl : xl = 0 := hx.nil rfl
    subst hl
    have hxs : xs = [] := List.eq_nil_of_length_eq_zero (by simpa using hx.len)
    subst hxs
    refine ⟨v, w, ?_, by simpa using hown, ⟨rfl, rfl, rfl, Nat.le_refl _, fun _ _ _ => rfl⟩, .inl rfl⟩
    rcases hown.2 with ⟨rfl, rfl⟩ | ⟨g, cap, cur, rfl, _, _, hnc, _⟩
    · simp [Builtin.append_, run_underlying ti.und, sizeOf, typeInfo, hi, Builtin.lenOf, Builtin.firstCells]
    · simp [Builtin.append_, run_underlying ti.und, sizeOf, typeInfo, hi, Builtin.lenOf, Builtin.firstCells, hnc, storeCells]

/-- append, on a slice of the call's own. -/
theorem Sep.append {E w : World} {L F : List Chunk} {t ty T sz bytes : Nat} {z : Value} (ti : TI t T sz bytes z) {s x : SV} {vs xs : List Value} (hS : Sep E w (L ++ F)) (ho : Own T sz s vs L) (hx : Src w sz x xs)
    (h1 : ∀ u ∈ xs, u.oneCell' = true) (hb : (s.len + x.len) * bytes ≤ 140737488355328) (hm : s.len + x.len ≤ maxLen) :
    ∃ s' w' L', Sem.run Pr (Builtin.append_ #[t, t] ty #[.slice s.a s.len s.cap, .slice x.a x.len x.cap]) w = .ok (.slice s'.a s'.len s'.cap) w' ∧ Own T sz s' (vs ++ xs) L' ∧ s'.len = s.len + x.len ∧ Sep E w' (L' ++ F) := by
  have hown := ho.owns hS
  obtain ⟨v', w', hr, h2, h3, h4⟩ := run_append_src (ty := ty) ti hown hx h1 hb hm
  obtain ⟨s', L', rfl, hl, ho', hL⟩ := Own.of_owns h2
  refine ⟨s', w', L', hr, ho', hl, ?_⟩
  -- what stands in F is not the slice's own block
  have hF : ∀ c ∈ F, w'.heap[c.1]? = some c.2 := fun c hc => by
    have hcw := hS.at_ c (List.mem_append_right _ hc)
    rw [h3.block c.1 (hS.lt (List.mem_append_right _ hc)) ?_]
    · exact hcw
    · intro e
      rcases ho.form with ⟨g1, _, _, _⟩ | ⟨g, cur, g1, rfl, _⟩
      · rw [g1] at e; cases e
      · rw [g1] at e
        simp only [Value.ownBlock, Option.some.injEq] at e
        exact Sep.ne (L := F) hS (b' := c.1) (o' := c.2) hc e
  have hSF : Sep E w' F := ⟨h3.os.trans hS.os, h3.tape.trans hS.tape, h3.output.trans hS.output, fun b => Nat.le_trans (by rw [ms_append]; omega) (hS.uniq b), hF⟩
  rcases hL with ⟨_, rfl⟩ | ⟨g, o, hg, rfl, hgo⟩
  · exact hSF
  · refine ⟨hSF.os, hSF.tape, hSF.output, fun b => ?_, fun c hc => ?_⟩
    · show ms (at1 b) ((g, o) :: F) ≤ 1
      by_cases hb : g = b
      · have : ms (at1 b) F = 0 := ms_zero fun c hc => by
          have hne : c.1 ≠ g := by
            rcases h4 with h4 | h4
            · rw [hg] at h4
              rcases ho.form with ⟨g1, _, _, _⟩ | ⟨g', cur, g1, rfl, _⟩
              · rw [g1] at h4; cases h4
              · rw [g1] at h4
                simp only [Value.ownBlock, Option.some.injEq] at h4
                subst h4
                exact Sep.ne (L := F) hS (b' := c.1) (o' := c.2) hc
            · rw [hg] at h4
              injection h4 with h4
              have := hS.lt (List.mem_append_right _ hc)
              omega
          simp [at1]; omega
        simp [ms, at1, hb] at this ⊢
        omega
      · have := hSF.uniq b
        simpa [ms, at1, hb] using this
    · rcases List.mem_cons.1 hc with rfl | hc
      · exact hgo
      · exact hF c hc

end Go.Proofs.Ytonjaaljnjjjcaa
