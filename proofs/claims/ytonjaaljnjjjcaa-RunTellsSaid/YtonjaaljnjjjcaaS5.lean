/- Bytes, strings and keys in a heap assertion. Conditions: as each lemma says. -/
import Derived.Test.YtonjaaljnjjjcaaS4
set_option linter.unusedVariables false
set_option linter.unusedSimpArgs false
namespace Go.Proofs.Ytonjaaljnjjjcaa
open Go Go.RowKit

def byteV (b : UInt8) : Value := .int .u8 (b.toNat : Int)

theorem byteV_one (l : List UInt8) : ∀ u ∈ l.map byteV, u.oneCell' = true := by
  intro u hu
  obtain ⟨b, _, rfl⟩ := List.mem_map.1 hu
  rfl

/-- A slice that reads as these bytes. -/
abbrev RdB (I : List Chunk) (s : SV) (l : List UInt8) : Prop := RdS I 1 s (l.map byteV)

theorem RdS.len1 {I : List Chunk} {s : SV} {l : List Value} (h : RdS I 1 s l) : s.len = l.length := by have := h.len; omega
theorem RdB.size {I : List Chunk} {s : SV} {l : List UInt8} (h : RdB I s l) : s.len = l.length := by have := h.len; simp at this; omega

def strOf (l : List UInt8) : ByteArray := ⟨l.toArray⟩

theorem strOf_data (s : ByteArray) : strOf s.data.toList = s := by
  cases s; rfl
theorem strOf_inj {l l' : List UInt8} : strOf l = strOf l' ↔ l = l' := by
  unfold strOf
  constructor
  · intro h
    injection h with h
    simpa using congrArg Array.toList h
  · rintro rfl; rfl
theorem toList_data (s : ByteArray) : s.toList = s.data.toList := ByteArray.toList_eq s

theorem ba_beq (a b : ByteArray) : (a == b) = decide (a = b) := by
  have h : (a == b) = (a.data == b.data) := rfl
  rw [h]
  cases a; cases b
  rename_i x y
  by_cases hxy : x = y
  · subst hxy; simp
  · rw [decide_eq_false (by simp only [ByteArray.mk.injEq]; exact hxy)]
    simp [hxy]
theorem toList_strOf (l : List UInt8) : (strOf l).toList = l := by rw [toList_data]; rfl
theorem size_strOf (l : List UInt8) : (strOf l).size = l.length := rfl

theorem foldl_push (l : List UInt8) : ∀ r : ByteArray, (l.map fun b => ((b.toNat : Nat) : Int)).foldl (fun r n => r.push (UInt8.ofNat n.toNat)) r = ⟨r.data ++ l.toArray⟩ := by
  induction l with
  | nil => intro r; simp
  | cons b l ih =>
    intro r
    rw [List.map_cons, List.foldl_cons, ih]
    simp [ByteArray.push]

theorem Sep.toStr {E w : World} {L I : List Chunk} (hS : Sep E w L) {s : SV} {l : List UInt8} (hr : RdB I s l) (hI : ∀ c ∈ I, c ∈ L) {st dt : TypeId}
    (h1 : Pr.underlying st = some (.slice 5)) (h2 : Pr.underlying dt = some .string) : At Pr w (convert st dt (.slice s.a s.len s.cap)) (.string (strOf l)) := by
  have hsrc := hr.src hS hI
  have he : Pr.underlying 5 = some (.int .u8) := by kernel_rfl
  unfold At
  rw [run_convert_bytes_string w st dt 5 s.a s.len s.cap h1 he h2]
  cases ha : s.a with
  | none =>
    have := hsrc.nil ha
    have hl : l = [] := List.eq_nil_of_length_eq_zero (by rw [← hr.size, this])
    subst hl
    simp [Conv.bytesToString, strOf]
    rfl
  | some a =>
    have hlen : s.len = l.length := hr.size
    have hmap : l.map byteV = (l.map fun b => ((b.toNat : Nat) : Int)).map (Value.int .u8) := by simp [byteV]
    have hload : (loadCells a s.len).run Pr w = .ok ((l.map fun b => ((b.toNat : Nat) : Int)).map (Value.int .u8)).toArray w := by
      rw [← hmap, hlen]
      have := run_loadCells_list (P := Pr) w a (l.map byteV) (fun j v hj => hsrc.at_ a ha j v hj)
      simpa using this
    rw [run_bytesToString w a s.len s.cap _ hload, foldl_push]
    simp [strOf]

/-! ### Keys -/
theorem findNow_str (k : ByteArray) : ∀ (l : List (Ent ByteArray)) (i : Nat), Instr.findNow .string (.string k) (l.map (Ent.me Value.string)) i = some (lookE k l i)
  | [], i => rfl
  | x :: l, i => by
    rw [List.map_cons]
    unfold Instr.findNow lookE
    simp only [Ent.me, Instr.sameNow]
    by_cases h : x.k = k
    · rw [if_pos h, h]
      rw [ba_beq, decide_eq_true rfl]
    · rw [if_neg h]
      have hb : (k == x.k) = false := by
        rw [ba_beq]
        exact decide_eq_false fun e => h e.symm
      rw [hb]
      exact findNow_str k l (i + 1)

theorem keyOk_str {kt : TypeId} (hu : Pr.underlying kt = some .string) (w : World) (l : List (Ent ByteArray)) (k : ByteArray) : KeyOk Pr kt Value.string w l k := by
  refine ⟨?_, fun e => ?_, ?_⟩
  · simp only [Instr.findKey, Sem.run_bind, run_underlying hu, Result.andThen_ok]
    rw [findNow_str]
    rfl
  · have : ∀ n, (Instr.checkKey e (n + 1) kt (.string k)).run Pr w = .ok () w := fun n => by
      unfold Instr.checkKey
      simp only [Sem.run_bind, run_underlying hu, Result.andThen_ok]
      rfl
    exact this 9999
  · have : ∀ n, Instr.sameBits n (.string k) (.string k) = true := fun n => by
      have h : (k == k) = true := by rw [ba_beq]; exact decide_eq_true rfl
      cases n <;> simp [Instr.sameBits, h]
    exact this 10000

theorem ba_eq_toList (a b : ByteArray) : (a.toList == b.toList) = decide (a = b) := by
  rw [toList_data, toList_data]
  cases a; cases b
  rename_i x y
  have h : (x.toList = y.toList) ↔ x = y := ⟨fun h => Array.ext' h, fun h => by rw [h]⟩
  by_cases hxy : x = y
  · subst hxy
    simp
  · rw [decide_eq_false (by simp only [ByteArray.mk.injEq]; exact hxy)]
    simp only [beq_eq_false_iff_ne, ne_eq]
    exact fun e => hxy (h.1 e)

/-! ### Keys that are pointers to blocks of cells -/
def ptrV (b : Nat) : Value := .pointer (some ⟨b, 0, none⟩)

/-- Blocks of cells that nobody froze. -/
def Plain (w : World) (b : Nat) : Prop := ∃ cs T, w.heap[b]? = some (.cells cs T (0, 0))

theorem run_sameAddr_plain {w : World} {a b : Nat} (ha : Plain w a) (hb : Plain w b) : (sameAddr ⟨a, 0, none⟩ ⟨b, 0, none⟩).run Pr w = .ok (decide (a = b)) w := by
  obtain ⟨ca, ta, ha⟩ := ha
  obtain ⟨cb, tb, hb⟩ := hb
  by_cases h : a = b
  · subst h
    simp [sameAddr]
  · have h0 : (a == b) = false := by simp [h]
    simp [sameAddr, h0, h, World.frozen?, ha, hb, noView, viewAt, World.shape?, mayBeOne, stringish]

theorem run_equal_ptr {w : World} {pt e : TypeId} {n : Nat} (hu : Pr.underlying pt = some (.pointer e)) (hs : sizeOf? Pr e = some (n + 1)) {a b : Nat} (ha : Plain w a) (hb : Plain w b) :
    (Op.equal pt (ptrV a) (ptrV b)).run Pr w = .ok (decide (a = b)) w := by
  have h : ∀ d, (Op.equalIn (d + 1) pt (ptrV a) (ptrV b)).run Pr w = .ok (decide (a = b)) w := fun d => by
    simp only [Op.equalIn, ptrV, Sem.run_bind, run_underlying hu, Result.andThen_ok, run_sizeOf_of hs]
    simp [run_sameAddr_plain ha hb]
  exact h 9999

theorem findAsking_ptr {w : World} {pt e : TypeId} {n : Nat} (hu : Pr.underlying pt = some (.pointer e)) (hs : sizeOf? Pr e = some (n + 1)) {k : Nat} (hk : Plain w k) :
    ∀ (l : List (Ent Nat)) (i : Nat), (∀ x ∈ l, Plain w x.k) → (Instr.findAsking pt (ptrV k) (l.map (Ent.me ptrV)) i).run Pr w = .ok (lookE k l i) w
  | [], i, _ => by simp [Instr.findAsking, lookE]
  | x :: l, i, hl => by
    rw [List.map_cons]
    unfold Instr.findAsking lookE
    simp only [Ent.me, Sem.run_bind, run_equal_ptr hu hs hk (hl x List.mem_cons_self), Result.andThen_ok]
    by_cases h : x.k = k
    · rw [if_pos h]
      simp [h]
    · rw [if_neg h]
      have h' : ¬ k = x.k := fun e => h e.symm
      simp only [h', decide_false, Bool.false_eq_true, if_false]
      exact findAsking_ptr hu hs hk l (i + 1) fun y hy => hl y (List.mem_cons_of_mem _ hy)

theorem keyOk_ptr {w : World} {pt e : TypeId} {n : Nat} (hu : Pr.underlying pt = some (.pointer e)) (hs : sizeOf? Pr e = some (n + 1)) {k : Nat} {l : List (Ent Nat)} (hk : Plain w k) (hl : ∀ x ∈ l, Plain w x.k) : KeyOk Pr pt ptrV w l k := by
  refine ⟨?_, fun em => ?_, ?_⟩
  · simp only [Instr.findKey, Sem.run_bind, run_underlying hu, Result.andThen_ok]
    cases l with
    | nil => rfl
    | cons x l =>
      have h0 : Instr.findNow (.pointer e) (ptrV k) ((x :: l).map (Ent.me ptrV)) 0 = none := rfl
      rw [h0]
      exact findAsking_ptr hu hs hk (x :: l) 0 hl
  · have : ∀ n, (Instr.checkKey em (n + 1) pt (ptrV k)).run Pr w = .ok () w := fun n => by
      unfold Instr.checkKey
      simp only [Sem.run_bind, run_underlying hu, Result.andThen_ok]
      rfl
    exact this 9999
  · have : ∀ n, Instr.sameBits n (ptrV k) (ptrV k) = true := fun n => by
      cases n <;> simp [Instr.sameBits, ptrV]
    exact this 10000

theorem Sep.plain {E w : World} {L : List Chunk} (hS : Sep E w L) {b : Nat} {cs : Array Value} {T : TypeId} (hc : (b, Obj.cells cs T (0, 0)) ∈ L) : Plain w b := ⟨cs, T, hS.at_ _ hc⟩

end Go.Proofs.Ytonjaaljnjjjcaa
