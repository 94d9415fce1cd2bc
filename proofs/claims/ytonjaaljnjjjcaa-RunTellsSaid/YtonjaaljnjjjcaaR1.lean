/- Runs: the writer's contracts. Conditions: as each lemma says. -/
import Derived.Test.YtonjaaljnjjjcaaD6
import Derived.Lib.BytesEntry
import Derived.Lib.UnsafeStr
set_option linter.unusedVariables false
set_option linter.unusedSimpArgs false
namespace Go.Proofs.Ytonjaaljnjjjcaa
open Go Go.RowKit

theorem run_bytesOf {E w : World} {L : List Chunk} {s : SV} {l : List UInt8} (hS : Sep E w L) (hr : RdB L s l) : (Extern.Bytes.bytesOf (.slice s.a s.len s.cap)).run Pr w = .ok (strOf l) w := by
  have hsz := hr.size
  have hsrc := hr.src hS fun c hc => hc
  cases ha : s.a with
  | none =>
    have h0 := hr.nil ha
    have : l = [] := List.eq_nil_of_length_eq_zero (by omega)
    subst this
    simp [Extern.Bytes.bytesOf, strOf]
    rfl
  | some a =>
    have h := Lib.run_loadBytesX (P := Pr) w (l.map fun b => ((b.toNat : Nat) : Int)) a .empty (fun j x hj => by
      rw [List.getElem?_map] at hj
      cases hl : l[j]? with
      | none => rw [hl] at hj; cases hj
      | some b =>
        rw [hl] at hj
        simp only [Option.map_some, Option.some.injEq] at hj
        subst hj
        exact hsrc.at_ a ha j (byteV b) (by simp [hl]))
    rw [List.length_map, ← hsz] at h
    have hb : Lib.bytesOf (l.map fun b => ((b.toNat : Nat) : Int)) = l := by
      simp [Lib.bytesOf, Function.comp_def]
    rw [hb] at h
    have he : (⟨ByteArray.empty.data ++ l.toArray⟩ : ByteArray) = strOf l := by
      unfold strOf
      congr 1
      show (#[] : Array UInt8) ++ l.toArray = l.toArray
      simp
    rw [he] at h
    exact h

/-- bytes.Compare. -/
theorem k136 {E w : World} {L : List Chunk} {s t : SV} {l m : List UInt8} (hS : Sep E w L) (hs : RdB L s l) (ht : RdB L t m) :
    Calls Pr 136 #[.slice s.a s.len s.cap, .slice t.a t.len t.cap] w fun e w' => e = .returned (.int .i64 (Lib.compareBytes l m)) ∧ w' = w := by
  refine call136 ?_
  unfold ir136 Does
  rw [run_callFunc_extern (P := Pr) (f := 155) (fn := Try.f155) (e := Extern.BytealgCompare.compare) Try.func155 (by kernel_rfl) (by kernel_rfl) (by kernel_rfl) (by kernel_rfl)]
  have hrun : (Extern.BytealgCompare.compare #[.slice s.a s.len s.cap, .slice t.a t.len t.cap]).run Pr w = .ok (.int .i64 (Lib.compareBytes l m)) w := by
    have hc : Extern.BytealgCompare.compare #[.slice s.a s.len s.cap, .slice t.a t.len t.cap] = (do pure (goInt (Extern.BytealgCompare.cmp (← Extern.Bytes.bytesOf (.slice s.a s.len s.cap)) (← Extern.Bytes.bytesOf (.slice t.a t.len t.cap))))) := rfl
    rw [hc]
    simp only [Sem.run_bind, run_bytesOf hS hs, run_bytesOf hS ht, Result.andThen_ok, Sem.run_pure]
    rw [Lib.cmp_eq]
    rfl
  rw [hrun]
  exact ⟨rfl, rfl⟩

/-- A writer's, or a reader's, last record. -/
def OrdRep (L : List Chunk) (s : SV) (any : Bool) (o : Option (List UInt8)) : Prop := any = o.isSome ∧ ∀ l, o = some l → RdB L s l

def ordNext (o : Option (List UInt8)) (x : List UInt8) : Option (List UInt8) := if rises o x then some x else o

/-- order.rises. -/
theorem k83 {E w : World} {L : List Chunk} {b T : Nat} {v0 v3 : Value} {s x : SV} {any : Bool} {o : Option (List UInt8)} {m : List UInt8} (hS : Sep E w ((b, .cells [v0, slV s, .bool any, v3].toArray T (0, 0)) :: L)) (ho : OrdRep L s any o) (hx : RdB L x m) (hm : m.length ≤ 1099511627776) :
    Calls Pr 83 #[.pointer (some ⟨b, 1, none⟩), .slice x.a x.len x.cap] w fun e w' => ∃ (s' : SV) (any' : Bool) (C : List Chunk), e = .returned (.bool (rises o m)) ∧ ((rises o m = true ∧ any' = true ∧ RdB C s' m) ∨ (rises o m = false ∧ s' = s ∧ any' = any)) ∧ Sep E w' ((b, .cells [v0, slV s', .bool any', v3].toArray T (0, 0)) :: (C ++ L)) := by
  refine call83 ?_
  unfold ir83
  have step : ∀ w, rises o m = true → Sep E w ((b, .cells [v0, slV s, .bool any, v3].toArray T (0, 0)) :: L) → Calls Pr 88 #[.slice x.a x.len x.cap] w fun e3 w5 => ∃ s3 : SV, e3 = .returned (.slice s3.a s3.len s3.cap) ∧ ∃ w6, Sem.run Pr (Instr.storeAt 26 (.pointer (some ⟨b, 1, none⟩)) (.slice s3.a s3.len s3.cap)) w5 = .ok () w6 ∧ ∃ w7, Sem.run Pr (Instr.storeAt 4 (.pointer (some ⟨b, 2, none⟩)) (.bool true)) w6 = .ok () w7 ∧
      ∃ (s' : SV) (any' : Bool) (C : List Chunk), Ending.returned (.bool true) = .returned (.bool (rises o m)) ∧ ((rises o m = true ∧ any' = true ∧ RdB C s' m) ∨ (rises o m = false ∧ s' = s ∧ any' = any)) ∧ Sep E w7 ((b, .cells [v0, slV s', .bool any', v3].toArray T (0, 0)) :: (C ++ L)) := by
    intro w hr hS
    refine (k88 hS (hx.tail _) hm).mono ?_
    rintro _ w5 ⟨s3, C, rfl, ho3, hS5⟩
    have hS5' : Sep E w5 ((b, .cells [v0, slV s, .bool any, v3].toArray T (0, 0)) :: (C ++ L)) := hS5.weak (by intro f; simp only [ms_append, ms_cons, ms_nil]; omega)
    obtain ⟨w6, h6, hS6⟩ := hS5'.store (o := 1) (n := 1) (v := slV s3) (t := 26) (by kernel_rfl) rfl (by simp) (by simp [Value.cells, Value.oneCell'])
    have hS6' : Sep E w6 ((b, .cells [v0, slV s3, .bool any, v3].toArray T (0, 0)) :: (C ++ L)) := hS6
    obtain ⟨w7, h7, hS7⟩ := hS6'.store (o := 2) (n := 1) (v := .bool true) (t := 4) (by kernel_rfl) rfl (by simp) (by simp [Value.cells, Value.oneCell'])
    exact ⟨s3, rfl, w6, h6, w7, h7, s3, true, C, by rw [hr], .inl ⟨hr, rfl, ho3.rds⟩, hS7⟩
  refine ⟨any, hS.load (o := 2) List.mem_cons_self rfl (by kernel_rfl), brc_intro (fun h => ?_) (fun h => ?_)⟩
  · have hs : o.isSome := by rw [← ho.1]; exact h
    obtain ⟨l, rfl⟩ := Option.isSome_iff_exists.1 hs
    refine ⟨s, hS.load (o := 1) List.mem_cons_self rfl (by kernel_rfl), ?_⟩
    refine (k136 hS ((ho.2 l rfl).tail _) (hx.tail _)).mono ?_
    rintro _ _ ⟨rfl, rfl⟩
    refine ⟨_, rfl, brc_intro (fun h2 => ?_) (fun h2 => ?_)⟩
    · have hr : rises (some l) m = false := by simp at h2; simp [rises]; omega
      exact ⟨s, any, [], by rw [hr], .inr ⟨hr, rfl, rfl⟩, hS⟩
    · have hr : rises (some l) m = true := by simp at h2; simp [rises]; omega
      exact step _ hr hS
  · have hn : o = none := by
      have : ¬ o.isSome := by rw [← ho.1, h]; simp
      simpa using this
    exact step w (by subst hn; rfl) hS

end Go.Proofs.Ytonjaaljnjjjcaa
