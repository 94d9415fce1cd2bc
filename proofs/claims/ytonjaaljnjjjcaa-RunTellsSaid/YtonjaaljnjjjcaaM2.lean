/- A disk that may crash, in plain Lean: how big it is; a run's writer. No program in sight. -/
import Derived.Test.YtonjaaljnjjjcaaM1
import Derived.Test.YtonjaaljnjjjcaaS1
import Derived.Lib.Bytealg
set_option linter.unusedVariables false
set_option linter.unusedSimpArgs false
namespace Go.Proofs.Ytonjaaljnjjjcaa
open Go

theorem ready_same (M : MDisk) : M.ready.2.files = M.files ∧ M.ready.2.now = M.now ∧ M.ready.2.kept = M.kept ∧ M.ready.2.changes = M.changes ∧ M.ready.2.room = M.room := by
  unfold MDisk.ready
  split
  · simp
  · split
    · split <;> simp
    · simp

theorem find_st (M : MDisk) (n : ByteArray) : (M.find n).2.2 = M.ready.2 := by
  unfold MDisk.find
  split
  · rfl
  · split <;> rfl

theorem find_cases (M : MDisk) (n : ByteArray) : (∃ e, e ≠ 0 ∧ M.find n = (e, none, M.ready.2)) ∨ ∃ i, M.find n = (0, some i, M.ready.2) ∧ findN n M.ready.2.now = some i := by
  unfold MDisk.find
  split
  · rename_i h
    exact .inl ⟨_, h, rfl⟩
  · split
    · exact .inl ⟨2, by decide, rfl⟩
    · rename_i i h
      exact .inr ⟨i, rfl, h⟩

def MDisk.total (M : MDisk) : Nat := ms (fun f => f.bytes.length) M.files

/-- It is no bigger than that. -/
structure MDisk.Fit (M : MDisk) (n : Nat) : Prop where
  left : M.left ≤ 9223372036854775807
  total : M.total ≤ n
  changes : M.changes.length ≤ n

namespace MDisk
theorem Fit.mono {M : MDisk} {n m : Nat} (h : M.Fit n) (hm : n ≤ m) : M.Fit m := ⟨h.left, Nat.le_trans h.total hm, Nat.le_trans h.changes hm⟩
theorem fit_new (room : Int) : (MDisk.new room).Fit 0 := ⟨Nat.zero_le _, Nat.le_refl _, Nat.le_refl _⟩
theorem Fit.ready {M : MDisk} {n : Nat} (h : M.Fit n) : M.ready.2.Fit n := by
  obtain ⟨h1, _, _, h4, _⟩ := ready_same M
  refine ⟨?_, by unfold MDisk.total; rw [h1]; exact h.total, by rw [h4]; exact h.changes⟩
  have := h.left
  unfold MDisk.ready
  split
  · exact this
  · split
    · split
      · exact this
      · show M.left - 1 ≤ _; omega
    · exact this
theorem Fit.chg {M : MDisk} {n : Nat} (h : M.Fit n) (c : MChange) : (M.chg c).Fit (n + 1) := ⟨h.left, Nat.le_succ_of_le h.total, by simp only [MDisk.chg, List.length_append, List.length_singleton]; have := h.changes; omega⟩

theorem ms_modify (k : Nat) (g : MFile → MFile) (hg : ∀ f, (g f).bytes.length ≤ f.bytes.length + k) : ∀ (l : List MFile) (i : Nat), ms (fun f => f.bytes.length) (l.modify i g) ≤ ms (fun f => f.bytes.length) l + k
  | [], i => by cases i <;> simp [ms]
  | f :: l, 0 => by
    have := hg f
    simp [ms]; omega
  | f :: l, i + 1 => by
    have := ms_modify k g hg l i
    simp [ms]; omega
theorem Fit.set {M : MDisk} {n : Nat} (h : M.Fit n) (i k : Nat) (g : MFile → MFile) (hg : ∀ f, (g f).bytes.length ≤ f.bytes.length + k) : (M.setFile i g).Fit (n + k) :=
  ⟨h.left, Nat.le_trans (ms_modify k g hg M.files i) (by have := h.total; unfold MDisk.total at this; omega), Nat.le_trans h.changes (by omega)⟩

theorem Fit.create {M : MDisk} {n : Nat} (h : M.Fit n) (s : ByteArray) : (M.create s).2.Fit (n + 1) := by
  unfold MDisk.create
  split
  · exact h.ready.mono (by omega)
  · split
    · exact h.ready.mono (by omega)
    · split
      · exact h.ready.mono (by omega)
      · refine Fit.chg (M := { M.ready.2 with files := M.ready.2.files ++ [MFile.mk [] 0] }) ⟨h.ready.left, ?_, h.ready.changes⟩ _
        have := h.ready.total
        unfold MDisk.total at *
        simp only [ms_append, ms_cons, ms_nil]
        simpa using this
theorem Fit.remove {M : MDisk} {n : Nat} (h : M.Fit n) (s : ByteArray) : (M.remove s).2.Fit (n + 1) := by
  unfold MDisk.remove
  rcases find_cases M s with ⟨e, _, hf⟩ | ⟨i, hf, _⟩
  · rw [hf]; exact h.ready.mono (by omega)
  · rw [hf]; exact h.ready.chg _
theorem Fit.rename {M : MDisk} {n : Nat} (h : M.Fit n) (s t : ByteArray) : (M.rename s t).2.Fit (n + 1) := by
  unfold MDisk.rename
  rcases find_cases M s with ⟨e, _, hf⟩ | ⟨i, hf, _⟩
  · rw [hf]; exact h.ready.mono (by omega)
  · rw [hf]
    dsimp only
    split
    · exact h.ready.mono (by omega)
    · exact h.ready.chg _
theorem Fit.append {M : MDisk} {n : Nat} (h : M.Fit n) (s : ByteArray) (b : List UInt8) : (M.append s b).2.Fit (n + b.length) := by
  unfold MDisk.append
  rcases find_cases M s with ⟨e, _, hf⟩ | ⟨i, hf, _⟩
  · rw [hf]; exact h.ready.mono (by omega)
  · rw [hf]
    dsimp only
    split
    · exact h.ready.mono (by omega)
    · exact h.ready.set _ _ _ fun f => by simp
theorem Fit.sync {M : MDisk} {n : Nat} (h : M.Fit n) (s : ByteArray) : (M.sync s).2.Fit n := by
  unfold MDisk.sync
  rcases find_cases M s with ⟨e, _, hf⟩ | ⟨i, hf, _⟩
  · rw [hf]; exact h.ready
  · rw [hf]; exact (h.ready.set i 0 _ fun f => by simp)
theorem Fit.syncNames {M : MDisk} {n : Nat} (h : M.Fit n) : M.syncNames.2.Fit n := by
  unfold MDisk.syncNames
  split
  · exact h.ready
  · exact ⟨h.ready.left, h.ready.total, Nat.zero_le _⟩
theorem read_st (M : MDisk) (s : ByteArray) : (M.read s).2.2 = M.ready.2 := by
  unfold MDisk.read
  rcases find_cases M s with ⟨e, _, hf⟩ | ⟨i, hf, _⟩ <;> rw [hf]
theorem Fit.read {M : MDisk} {n : Nat} (h : M.Fit n) (s : ByteArray) : (M.read s).2.2.Fit n := by
  rw [read_st]
  exact h.ready
theorem Fit.files {M : MDisk} {n : Nat} (h : M.Fit n) : ∀ f ∈ M.files, f.bytes.length ≤ n := fun f hf => Nat.le_trans (ms_pos (f := fun f : MFile => f.bytes.length) hf) h.total
end MDisk

/-! ### A run's writer -/
def rises (o : Option (List UInt8)) (x : List UInt8) : Bool := match o with
  | none => true
  | some l => decide (Lib.compareBytes l x < 0)

def way : ByteArray := ⟨#[116, 109, 112]⟩

structure MWr where
  ord : Option (List UInt8)
  many : Nat

def startM (M : MDisk) : Int × MDisk :=
  if (M.remove way).1 ≠ 0 ∧ (M.remove way).1 ≠ 2 then M.remove way else (M.remove way).2.create way

end Go.Proofs.Ytonjaaljnjjjcaa
