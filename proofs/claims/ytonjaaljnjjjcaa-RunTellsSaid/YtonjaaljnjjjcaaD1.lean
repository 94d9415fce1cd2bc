/- The program's disk: how it lies, and its contracts. Conditions: as each lemma says. -/
import Derived.Test.YtonjaaljnjjjcaaC3
import Derived.Test.YtonjaaljnjjjcaaM2
set_option linter.unusedVariables false
set_option linter.unusedSimpArgs false
namespace Go.Proofs.Ytonjaaljnjjjcaa
open Go Go.RowKit

/-! ### Maps with keys of their own -/
structure MapWf {K : Type} (l : List (Ent K)) (c : Nat) : Prop where
  keys : (l.map (·.k)).Nodup
  born : ∀ e ∈ l, e.born < c
  borns : (l.map (·.born)).Nodup

section
variable {K : Type} [DecidableEq K]

theorem getE_setE (k : K) (v : Value) (c : Nat) (j : K) : ∀ l : List (Ent K), getE j (setE k v c l) = if j = k then some v else getE j l
  | [] => by
    by_cases h : j = k
    · simp [setE, getE, h]
    · have : ¬ k = j := fun e => h e.symm
      simp [setE, getE, h, this]
  | x :: l => by
    unfold setE
    by_cases hx : x.k = k
    · rw [if_pos hx]
      by_cases h : j = k
      · simp [getE, h]
      · have : ¬ k = j := fun e => h e.symm
        have h2 : ¬ x.k = j := fun e => h (e.symm.trans hx)
        simp [getE, h, this, h2]
    · rw [if_neg hx]
      unfold getE
      rw [getE_setE k v c j l]
      by_cases hxj : x.k = j
      · have : ¬ j = k := fun e => hx (hxj.trans e)
        simp [hxj, this]
      · simp [hxj]

theorem getE_none {k : K} : ∀ {l : List (Ent K)}, getE k l = none ↔ ∀ e ∈ l, e.k ≠ k
  | [] => by simp [getE]
  | x :: l => by
    unfold getE
    by_cases hx : x.k = k
    · simp [hx]
    · rw [if_neg hx, getE_none (l := l)]
      simp [hx]

theorem getE_delE (k j : K) : ∀ l : List (Ent K), (l.map (·.k)).Nodup → getE j (delE k l) = if j = k then none else getE j l
  | [], _ => by simp [delE, getE]
  | x :: l, h => by
    rw [List.map_cons, List.nodup_cons] at h
    unfold delE
    by_cases hx : x.k = k
    · rw [if_pos hx]
      by_cases hj : j = k
      · rw [if_pos hj, getE_none]
        intro e he h2
        exact h.1 (List.mem_map.2 ⟨e, he, by rw [h2, hj, hx]⟩)
      · have : ¬ x.k = j := fun e => hj (e.symm.trans hx)
        simp [getE, hj, this]
    · rw [if_neg hx]
      unfold getE
      rw [getE_delE k j l h.2]
      by_cases hxj : x.k = j
      · have : ¬ j = k := fun e => hx (hxj.trans e)
        simp [hxj, this]
      · simp [hxj]

theorem delE_sub (k : K) : ∀ l : List (Ent K), (delE k l).Sublist l
  | [] => List.Sublist.refl _
  | x :: l => by
    unfold delE
    split
    · exact List.sublist_cons_self x l
    · exact (delE_sub k l).cons_cons x

theorem MapWf.del {l : List (Ent K)} {c : Nat} (h : MapWf l c) (k : K) : MapWf (delE k l) c :=
  ⟨((delE_sub k l).map _).nodup h.keys, fun e he => h.born e ((delE_sub k l).subset he), ((delE_sub k l).map _).nodup h.borns⟩

theorem setE_keys (k : K) (v : Value) (c : Nat) : ∀ l : List (Ent K), (setE k v c l).map (·.k) = if (getE k l).isSome then l.map (·.k) else l.map (·.k) ++ [k]
  | [] => rfl
  | x :: l => by
    unfold setE getE
    by_cases hx : x.k = k
    · rw [if_pos hx, if_pos hx]
      simp [hx]
    · rw [if_neg hx, if_neg hx, List.map_cons, setE_keys k v c l]
      split <;> simp

theorem setE_borns (k : K) (v : Value) (c : Nat) : ∀ l : List (Ent K), (setE k v c l).map (·.born) = if (getE k l).isSome then l.map (·.born) else l.map (·.born) ++ [c]
  | [] => rfl
  | x :: l => by
    unfold setE getE
    by_cases hx : x.k = k
    · rw [if_pos hx, if_pos hx]
      simp
    · rw [if_neg hx, if_neg hx, List.map_cons, setE_borns k v c l]
      split <;> simp

theorem MapWf.set {l : List (Ent K)} {c : Nat} (h : MapWf l c) (k : K) (v : Value) : MapWf (setE k v c l) (if (getE k l).isSome then c else c + 1) := by
  have hb : ∀ b ∈ (setE k v c l).map (·.born), b < if (getE k l).isSome then c else c + 1 := by
    rw [setE_borns]
    split
    · intro b hb
      obtain ⟨e, he, rfl⟩ := List.mem_map.1 hb
      exact h.born e he
    · intro b hb
      rcases List.mem_append.1 hb with hb | hb
      · obtain ⟨e, he, rfl⟩ := List.mem_map.1 hb
        have := h.born e he
        omega
      · simp at hb; omega
  refine ⟨?_, fun e he => hb _ (List.mem_map.2 ⟨e, he, rfl⟩), ?_⟩
  · rw [setE_keys]
    split
    · exact h.keys
    · rename_i hn
      have hn : getE k l = none := by simpa using hn
      rw [List.nodup_append]
      refine ⟨h.keys, by simp, fun a ha b hb => ?_⟩
      simp at hb
      subst hb
      obtain ⟨e, he, rfl⟩ := List.mem_map.1 ha
      exact getE_none.1 hn e he
  · rw [setE_borns]
    split
    · exact h.borns
    · rw [List.nodup_append]
      refine ⟨h.borns, by simp, fun a ha b hb => ?_⟩
      simp at hb
      subst hb
      obtain ⟨e, he, rfl⟩ := List.mem_map.1 ha
      have := h.born e he
      omega

theorem MapWf.nil (K : Type) : MapWf ([] : List (Ent K)) 0 := ⟨by simp, by simp, by simp⟩
end

/-! ### How a disk lies -/
structure FRec where
  b : Nat
  s : SV
  f : MFile
def fChunk (r : FRec) : Chunk := (r.b, .cells #[slV r.s, .int .i64 (r.f.kept : Int)] 146 (0, 0))
def filePtr (bs : List Nat) (i : Nat) : Option Addr := (bs[i]?).map fun b => ⟨b, 0, none⟩
def dChunk (M : MDisk) (d mn mk : Nat) (cs : SV) : Chunk := (d, .cells #[.map (some mn), .map (some mk), slV cs, .int .i64 (M.room : Int), .bool M.down, .bool M.doomed, .int .i64 (M.left : Int)] 140 (0, 0))
def chV (bs : List Nat) (c : MChange) : List Value := [.string c.gone, .string c.new, .pointer (if c.new = noName then none else filePtr bs c.file)]

structure NameRep (bs : List Nat) (nm : Names) (l : List (Ent ByteArray)) (c : Nat) : Prop where
  wf : MapWf l c
  get : ∀ k, getE k l = (findN k nm).map fun i => Value.pointer (filePtr bs i)
  ids : ∀ k i, findN k nm = some i → i < bs.length
  sorted : SortedN nm

structure DS where
  fs : List FRec
  mn : Nat
  mq : Nat
  ln : List (Ent ByteArray)
  lk : List (Ent ByteArray)
  cn : Nat
  ck : Nat
  cs : SV
  CC : List Chunk

def DS.bs (D : DS) : List Nat := D.fs.map (·.b)
abbrev strM (m : Nat) (l : List (Ent ByteArray)) (c : Nat) : Chunk := mapC Value.string m l c
def DS.chunks (D : DS) (M : MDisk) (d : Nat) : List Chunk := dChunk M d D.mn D.mq D.cs :: strM D.mn D.ln D.cn :: strM D.mq D.lk D.ck :: (D.CC ++ D.fs.map fChunk)

structure DRep (D : DS) (M : MDisk) (L : List Chunk) : Prop where
  files : D.fs.map (·.f) = M.files
  bytes : ∀ r ∈ D.fs, RdB L r.s r.f.bytes
  now : NameRep D.bs M.now D.ln D.cn
  kept : NameRep D.bs M.kept D.lk D.ck
  own : Own 153 3 D.cs (M.changes.flatMap (chV D.bs)) D.CC
  chOk : ∀ c ∈ M.changes, c.new ≠ noName → c.file < D.bs.length

theorem DRep.mono {D : DS} {M : MDisk} {L L' : List Chunk} (h : DRep D M L) (hL : ∀ c ∈ L, c ∈ L') : DRep D M L' := ⟨h.files, fun r hr => (h.bytes r hr).mono hL, h.now, h.kept, h.own, h.chOk⟩
theorem DRep.right {D : DS} {M : MDisk} {L : List Chunk} (h : DRep D M L) (C : List Chunk) : DRep D M (C ++ L) := h.mono fun c hc => List.mem_append_right _ hc

theorem DRep.ready {D : DS} {M : MDisk} {L : List Chunk} (h : DRep D M L) : DRep D M.ready.2 L := by
  obtain ⟨h1, h2, h3, h4, _⟩ := ready_same M
  exact ⟨h1 ▸ h.files, h.bytes, h2 ▸ h.now, h3 ▸ h.kept, by rw [h4]; exact h.own, by rw [h4]; exact h.chOk⟩

/-! ### Contracts -/
theorem k91 {E w : World} {L : List Chunk} {M : MDisk} {d mn mk : Nat} {cs : SV} (hl : M.left ≤ 9223372036854775807) (hS : Sep E w (dChunk M d mn mk cs :: L)) :
    Calls Pr 91 #[.pointer (some ⟨d, 0, none⟩)] w fun e w' => e = .returned (.int .i64 M.ready.1) ∧ Sep E w' (dChunk M.ready.2 d mn mk cs :: L) := by
  refine call91 ?_
  unfold ir91
  refine brc_false rfl ?_
  refine ⟨M.down, hS.load (o := 4) List.mem_cons_self rfl (by kernel_rfl), brc_intro (fun h => ?_) (fun h => ?_)⟩
  · have : M.ready = (40, M) := by simp [MDisk.ready, h]
    rw [this]
    exact ⟨rfl, hS⟩
  refine ⟨M.doomed, hS.load (o := 5) List.mem_cons_self rfl (by kernel_rfl), brc_intro (fun h' => ?_) (fun h' => ?_)⟩
  · refine ⟨(M.left : Int), hS.load (o := 6) List.mem_cons_self rfl (by kernel_rfl), brc_intro (fun h2 => ?_) (fun h2 => ?_)⟩
    · have h2 : M.left = 0 := by simpa using h2
      have : M.ready = (40, { M with down := true }) := by simp [MDisk.ready, h, h', h2]
      rw [this]
      obtain ⟨w1, h1, hS1⟩ := hS.store (o := 4) (n := 1) (v := .bool true) (t := 4) (by kernel_rfl) rfl (by simp) (by simp [Value.cells, Value.oneCell'])
      exact ⟨w1, h1, rfl, hS1⟩
    · have h2 : ¬ M.left = 0 := by simpa using h2
      have : M.ready = (0, { M with left := M.left - 1 }) := by simp [MDisk.ready, h, h', h2]
      rw [this]
      refine ⟨M.doomed, hS.load (o := 5) List.mem_cons_self rfl (by kernel_rfl), brc_true h' ?_⟩
      refine ⟨(M.left : Int), hS.load (o := 6) List.mem_cons_self rfl (by kernel_rfl), ?_⟩
      have hw : IntKind.wrap .i64 ((M.left : Int) - 1) = ((M.left - 1 : Nat) : Int) := by rw [w64 (by omega) (by omega)]; omega
      rw [hw]
      obtain ⟨w1, h1, hS1⟩ := hS.store (o := 6) (n := 1) (v := .int .i64 ((M.left - 1 : Nat) : Int)) (t := 3) (by kernel_rfl) rfl (by simp) (by simp [Value.cells, Value.oneCell'])
      exact ⟨w1, h1, rfl, hS1⟩
  · refine ⟨M.doomed, hS.load (o := 5) List.mem_cons_self rfl (by kernel_rfl), brc_false h' ?_⟩
    have : M.ready = (0, M) := by simp [MDisk.ready, h, h']
    rw [this]
    exact ⟨rfl, hS⟩

theorem k92 (w : World) (n : ByteArray) : Calls Pr 92 #[.string n] w fun e w' => e = .returned (.bool (MDisk.right n)) ∧ w' = w := by
  refine call92 ?_
  unfold ir92
  refine brc_intro (fun h => ?_) (fun h => ?_)
  · refine ⟨?_, rfl⟩
    have h : 1 ≤ n.size := by simp at h; omega
    congr 2
    simp only [MDisk.right, h, decide_true, Bool.true_and]
    rw [decide_eq_decide]
    omega
  · refine ⟨?_, rfl⟩
    have h : ¬ 1 ≤ n.size := by simp at h; omega
    simp [MDisk.right, h]

end Go.Proofs.Ytonjaaljnjjjcaa
