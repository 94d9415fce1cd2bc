/- Lists that rise, in plain Lean. No program in sight. -/
import Derived.Test.YtonjaaljnjjjcaaK2
import Derived.Test.YtonjaaljnjjjcaaM1
set_option linter.unusedVariables false
set_option linter.unusedSimpArgs false
namespace Go.Proofs.Ytonjaaljnjjjcaa
open Go

/-- Put in its place, once. -/
def insB (b : List UInt8) : List (List UInt8) → List (List UInt8)
  | [] => [b]
  | x :: l => if Op.bytesLess x b then x :: insB b l else if x = b then x :: l else b :: x :: l

theorem insB_at (b : List UInt8) : ∀ (l : List (List UInt8)) (k : Nat), k ≤ l.length → (∀ i (h : i < k) (h' : i < l.length), Op.bytesLess l[i] b = true) →
    (∀ h : k < l.length, Op.bytesLess l[k] b = false) → insB b l = if (if h : k < l.length then decide (l[k] = b) else false) then l else l.take k ++ [b] ++ l.drop k
  | [], k, hk, _, _ => by
    have : k = 0 := by simpa using hk
    subst this
    rfl
  | x :: l, 0, _, _, h0 => by
    have h := h0 (by simp)
    simp only [List.getElem_cons_zero] at h
    unfold insB
    rw [h]
    by_cases hx : x = b <;> simp [hx]
  | x :: l, k + 1, hk, hl, h0 => by
    have hx : Op.bytesLess x b = true := hl 0 (by omega) (by simp)
    have ih := insB_at b l k (by simpa using hk) (fun i h h' => by
      have := hl (i + 1) (by omega) (by simpa using h')
      simpa using this) (fun h => by
      have := h0 (by simpa using h)
      simpa using this)
    unfold insB
    rw [hx, if_pos rfl, ih]
    by_cases hkl : k < l.length
    · by_cases he : l[k] = b <;> simp [hkl, he]
    · simp [hkl]

def riseL (ls : List (List UInt8)) : List (List UInt8) := (fewL ls).foldl (fun out b => if b.length > 64 then out else insB b out) []

/-- Each is less than all that come behind it. -/
def Rising (l : List (List UInt8)) : Prop := l.Pairwise fun x y => Op.bytesLess x y = true

theorem insB_mem (b : List UInt8) : ∀ (l : List (List UInt8)) (x : List UInt8), x ∈ insB b l → x = b ∨ x ∈ l
  | [], x, h => by simp [insB] at h; exact .inl h
  | y :: l, x, h => by
    unfold insB at h
    split at h
    · rcases List.mem_cons.1 h with rfl | h
      · exact .inr List.mem_cons_self
      · rcases insB_mem b l x h with h | h
        · exact .inl h
        · exact .inr (List.mem_cons_of_mem _ h)
    · split at h
      · exact .inr h
      · rcases List.mem_cons.1 h with rfl | h
        · exact .inl rfl
        · exact .inr h

theorem insB_rising (b : List UInt8) : ∀ {l : List (List UInt8)}, Rising l → Rising (insB b l)
  | [], _ => List.pairwise_singleton _ _
  | y :: l, h => by
    have h := List.pairwise_cons.1 h
    unfold insB
    split
    · rename_i hy
      refine List.pairwise_cons.2 ⟨fun x hx => ?_, insB_rising b h.2⟩
      rcases insB_mem b l x hx with rfl | hx
      · exact hy
      · exact h.1 x hx
    · rename_i hy
      split
      · exact List.pairwise_cons.2 h
      · rename_i hn
        have hb : Op.bytesLess b y = true := (bl_total hn).resolve_left hy
        refine List.pairwise_cons.2 ⟨fun x hx => ?_, List.pairwise_cons.2 h⟩
        rcases List.mem_cons.1 hx with rfl | hx
        · exact hb
        · exact bl_trans hb (h.1 x hx)

theorem insB_len (b : List UInt8) : ∀ l : List (List UInt8), (insB b l).length ≤ l.length + 1
  | [] => Nat.le_refl _
  | y :: l => by
    have := insB_len b l
    unfold insB
    split
    · simp; omega
    · split <;> simp

end Go.Proofs.Ytonjaaljnjjjcaa
