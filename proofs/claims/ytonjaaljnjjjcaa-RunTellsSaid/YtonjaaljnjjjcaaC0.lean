/- Helpers for contracts. Conditions: as each lemma says. -/
import Derived.Test.YtonjaaljnjjjcaaS5
import Derived.Lib.AppendZeros
import Derived.Laws.CopyRow
set_option linter.unusedVariables false
set_option linter.unusedSimpArgs false
namespace Go.Proofs.Ytonjaaljnjjjcaa
open Go Go.RowKit


theorem w64 {n : Int} (h : -9223372036854775808 ≤ n) (h' : n ≤ 9223372036854775807) : IntKind.wrap .i64 n = n := by rw [IntKind.wrap_i64]; omega

theorem cutAt_zero (a : Option Addr) (m s : Nat) : cutAt a 0 m s = a := by
  unfold cutAt
  split
  · rfl
  · cases a with
    | none => rfl
    | some a =>
      obtain ⟨b, o, sp⟩ := a
      cases sp <;> simp [Addr.add]

theorem at_nilslice {t T : TypeId} (ht : Pr.underlying t = some (.slice T)) (w : World) (a : Option Addr) (l c : Nat) {x y : Operand} :
    At Pr w (do eqGuard .eql t x y (.slice a l c) (.slice none 0 0); binOp .eql t (.slice a l c) (.slice none 0 0)) (.bool a.isNone) := by
  unfold At
  have h : ∀ d, (Op.equalIn (d + 1) t (.slice a l c) (.slice none 0 0)).run Pr w = .ok a.isNone w := fun d => by
    cases a <;> simp [Op.equalIn, run_underlying ht]
  have h' : (Op.equal t (.slice a l c) (.slice none 0 0)).run Pr w = .ok a.isNone w := h 9999
  simp [eqGuard, binOp, h']

theorem tiB : TI 26 5 1 1 (.int .u8 0) := ⟨by kernel_rfl, by kernel_rfl, rfl, by decide⟩
theorem tiBB : TI 22 26 1 24 (.slice none 0 0) := ⟨by kernel_rfl, by kernel_rfl, rfl, by decide⟩

theorem RdS.idx {I : List Chunk} {s : SV} {xs : List Value} (h : RdS I 1 s xs) {i : Nat} {v : Value} (hv : xs[i]? = some v) {E w : World} {L : List Chunk} (hS : Sep E w L) (hI : ∀ c ∈ I, c ∈ L) {t : TypeId} (ht : oneT Pr t = true) :
    ∃ a, s.a = some a ∧ At Pr w (loadVar t (a.add (i * 1))) v := by
  cases ha : s.a with
  | none =>
    have h0 := h.nil ha
    have h1 := h.len1
    have : i < xs.length := (List.getElem?_eq_some_iff.1 hv).1
    omega
  | some a =>
    refine ⟨a, rfl, ?_⟩
    obtain ⟨b, o, sp⟩ := a
    rcases h.at_ _ ha with h0 | ⟨hsp, cs, T, fr, hc, hv'⟩
    · have h1 := h.len1
      have : i < xs.length := (List.getElem?_eq_some_iff.1 hv).1
      omega
    · simp only at hsp
      subst hsp
      rw [Nat.mul_one, addr_add]
      exact hS.load (hI _ hc) (hv' i v hv) ht

theorem RdS.cut {I : List Chunk} {sz : Nat} {s : SV} {xs : List Value} (hr : RdS I sz s xs) {l h m : Nat} (hl : l ≤ h) (hh : h ≤ s.len) (hm : h ≤ m) (hm' : m ≤ s.cap) :
    RdS I sz ⟨cutAt s.a l m sz, h - l, m - l⟩ ((xs.drop (l * sz)).take ((h - l) * sz)) := by
  have hmul : (h - l) * sz ≤ xs.length - l * sz := by
    rw [hr.len, ← Nat.sub_mul]
    exact Nat.mul_le_mul_right _ (by omega)
  refine ⟨?_, by show h - l ≤ m - l; omega, fun ha => ?_, fun a ha => ?_⟩
  · simp only [List.length_take, List.length_drop]
    omega
  · show h - l = 0
    simp only [cutAt] at ha
    split at ha
    · omega
    · have := hr.nil (by simpa using ha)
      omega
  · simp only [cutAt] at ha
    split at ha
    · exact .inl (by show h - l = 0; omega)
    · cases ha' : s.a with
      | none => rw [ha'] at ha; cases ha
      | some b =>
        rw [ha'] at ha
        simp only [Option.map_some, Option.some.injEq] at ha
        rcases hr.at_ b ha' with h0 | ⟨h1, cs, T, fr, hc, hv⟩
        · exact .inl (by show h - l = 0; omega)
        · obtain ⟨bb, bo, bs⟩ := b
          simp only at h1
          subst h1
          rw [addr_add] at ha
          subst ha
          refine .inr ⟨rfl, cs, T, fr, hc, fun j u hu => ?_⟩
          rw [List.getElem?_take] at hu
          split at hu
          · rw [List.getElem?_drop] at hu
            have := hv _ _ hu
            simpa [Nat.add_assoc] using this
          · cases hu

theorem RdB.cut {I : List Chunk} {s : SV} {xs : List UInt8} (hr : RdB I s xs) {l h m : Nat} (hl : l ≤ h) (hh : h ≤ s.len) (hm : h ≤ m) (hm' : m ≤ s.cap) :
    RdB I ⟨cutAt s.a l m 1, h - l, m - l⟩ ((xs.drop l).take (h - l)) := by
  have := RdS.cut hr hl hh hm hm'
  rw [Nat.mul_one, Nat.mul_one, ← List.map_drop, ← List.map_take] at this
  exact this

theorem RdS.none (I : List Chunk) (sz : Nat) : RdS I sz SV.nil [] := ⟨by simp [SV.nil], Nat.le_refl _, fun _ => rfl, fun a ha => by cases ha⟩

theorem Own.rdl {T sz : Nat} {s : SV} {vs : List Value} {C : List Chunk} (h : Own T sz s vs C) (L : List Chunk) : RdS (C ++ L) sz s vs := h.rds.mono fun c hc => List.mem_append_left _ hc
theorem RdS.left {I : List Chunk} {sz : Nat} {s : SV} {xs : List Value} (h : RdS I sz s xs) (C : List Chunk) : RdS (I ++ C) sz s xs := h.mono fun c hc => List.mem_append_left _ hc
theorem RdS.right {I : List Chunk} {sz : Nat} {s : SV} {xs : List Value} (h : RdS I sz s xs) (C : List Chunk) : RdS (C ++ I) sz s xs := h.mono fun c hc => List.mem_append_right _ hc
theorem RdS.tail {I : List Chunk} {sz : Nat} {s : SV} {xs : List Value} (h : RdS I sz s xs) (C : Chunk) : RdS (C :: I) sz s xs := h.mono fun c hc => List.mem_cons_of_mem _ hc

/-- Slices that read as lists of bytes. -/
def RdBs (I : List Chunk) (ss : List SV) (ls : List (List UInt8)) : Prop := ss.length = ls.length ∧ ∀ (i : Nat) (s : SV) (l : List UInt8), ss[i]? = some s → ls[i]? = some l → RdB I s l

theorem RdBs.mono {I I' : List Chunk} {ss : List SV} {ls : List (List UInt8)} (h : RdBs I ss ls) (hI : ∀ c ∈ I, c ∈ I') : RdBs I' ss ls := ⟨h.1, fun i s l hs hl => (h.2 i s l hs hl).mono hI⟩
theorem RdBs.nil (I : List Chunk) : RdBs I [] [] := ⟨rfl, fun i s l hs => by simp at hs⟩
theorem RdBs.cons {I : List Chunk} {s : SV} {l : List UInt8} {ss : List SV} {ls : List (List UInt8)} (h : RdB I s l) (hs : RdBs I ss ls) : RdBs I (s :: ss) (l :: ls) :=
  ⟨by simp [hs.1], fun i s' l' h1 h2 => by
    cases i with
    | zero => simp at h1 h2; subst h1; subst h2; exact h
    | succ i => exact hs.2 i s' l' (by simpa using h1) (by simpa using h2)⟩
theorem RdBs.append {I : List Chunk} {ss ss' : List SV} {ls ls' : List (List UInt8)} (h : RdBs I ss ls) (h' : RdBs I ss' ls') : RdBs I (ss ++ ss') (ls ++ ls') :=
  ⟨by simp [h.1, h'.1], fun i s l h1 h2 => by
    rw [List.getElem?_append] at h1 h2
    rw [h.1] at h1
    split at h1
    · rename_i hi
      rw [if_pos hi] at h2
      exact h.2 i s l h1 h2
    · rename_i hi
      rw [if_neg hi] at h2
      exact h'.2 _ s l h1 h2⟩

abbrev slV (s : SV) : Value := .slice s.a s.len s.cap
theorem slV_one (ss : List SV) : ∀ u ∈ ss.map slV, u.oneCell' = true := by
  intro u hu
  obtain ⟨b, _, rfl⟩ := List.mem_map.1 hu
  rfl

end Go.Proofs.Ytonjaaljnjjjcaa
