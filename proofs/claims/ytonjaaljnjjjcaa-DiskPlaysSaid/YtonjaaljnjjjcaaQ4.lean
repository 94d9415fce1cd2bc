/- DiskPlays: whatever the input, the call returns true, and the arguments read as they read before. Conditions: none. -/
import Derived.ChangeArms
import Derived.Test.YtonjaaljnjjjcaaRows
import Derived.ProofKit
import Derived.Test.YtonjaaljnjjjcaaQ3
/- The program's disk: what a clone owns. Conditions: as each lemma says. -/
set_option linter.unusedVariables false
set_option linter.unusedSimpArgs false
namespace Go.Proofs.Ytonjaaljnjjjcaa
open Go Go.RowKit

/-! ### Keys that are pointers, or nil -/
def kvO (o : Option Nat) : Value := .pointer (o.map fun b => ⟨b, 0, none⟩)
def PlainO (w : World) (o : Option Nat) : Prop := ∀ b, o = some b → Plain w b

theorem run_equal_optr {w : World} {pt e : TypeId} {n : Nat} (hu : Pr.underlying pt = some (.pointer e)) (hs : sizeOf? Pr e = some (n + 1)) {a b : Option Nat} (ha : PlainO w a) (hb : PlainO w b) :
    (Op.equal pt (kvO a) (kvO b)).run Pr w = .ok (decide (a = b)) w := by
  cases a with
  | none =>
    cases b with
    | none =>
      have h : ∀ d, (Op.equalIn (d + 1) pt (kvO none) (kvO none)).run Pr w = .ok true w := fun d => by
        simp only [Op.equalIn, kvO, Sem.run_bind, run_underlying hu, Result.andThen_ok, run_sizeOf_of hs, Option.map_none]
        rfl
      exact h 9999
    | some b =>
      have h : ∀ d, (Op.equalIn (d + 1) pt (kvO none) (kvO (some b))).run Pr w = .ok false w := fun d => by
        simp only [Op.equalIn, kvO, Sem.run_bind, run_underlying hu, Result.andThen_ok, run_sizeOf_of hs, Option.map_none, Option.map_some]
        rfl
      exact h 9999
  | some a =>
    cases b with
    | none =>
      have h : ∀ d, (Op.equalIn (d + 1) pt (kvO (some a)) (kvO none)).run Pr w = .ok false w := fun d => by
        simp only [Op.equalIn, kvO, Sem.run_bind, run_underlying hu, Result.andThen_ok, run_sizeOf_of hs, Option.map_none, Option.map_some]
        rfl
      exact h 9999
    | some b =>
      have := run_equal_ptr hu hs (ha a rfl) (hb b rfl)
      simpa [kvO, ptrV] using this

theorem findAsking_optr {w : World} {pt e : TypeId} {n : Nat} (hu : Pr.underlying pt = some (.pointer e)) (hs : sizeOf? Pr e = some (n + 1)) {k : Option Nat} (hk : PlainO w k) :
    ∀ (l : List (Ent (Option Nat))) (i : Nat), (∀ x ∈ l, PlainO w x.k) → (Instr.findAsking pt (kvO k) (l.map (Ent.me kvO)) i).run Pr w = .ok (lookE k l i) w
  | [], i, _ => by simp [Instr.findAsking, lookE]
  | x :: l, i, hl => by
    rw [List.map_cons]
    unfold Instr.findAsking lookE
    simp only [Ent.me, Sem.run_bind, run_equal_optr hu hs hk (hl x List.mem_cons_self), Result.andThen_ok]
    by_cases h : x.k = k
    · rw [if_pos h]
      simp [h]
    · rw [if_neg h]
      have h' : ¬ k = x.k := fun e => h e.symm
      simp only [h', decide_false, Bool.false_eq_true, if_false]
      exact findAsking_optr hu hs hk l (i + 1) fun y hy => hl y (List.mem_cons_of_mem _ hy)

theorem keyOk_optr {w : World} {pt e : TypeId} {n : Nat} (hu : Pr.underlying pt = some (.pointer e)) (hs : sizeOf? Pr e = some (n + 1)) {k : Option Nat} {l : List (Ent (Option Nat))} (hk : PlainO w k) (hl : ∀ x ∈ l, PlainO w x.k) : KeyOk Pr pt kvO w l k := by
  refine ⟨?_, fun em => ?_, ?_⟩
  · simp only [Instr.findKey, Sem.run_bind, run_underlying hu, Result.andThen_ok]
    cases l with
    | nil => rfl
    | cons x l =>
      have h0 : Instr.findNow (.pointer e) (kvO k) ((x :: l).map (Ent.me kvO)) 0 = none := rfl
      rw [h0]
      exact findAsking_optr hu hs hk (x :: l) 0 hl
  · have : ∀ n, (Instr.checkKey em (n + 1) pt (kvO k)).run Pr w = .ok () w := fun n => by
      unfold Instr.checkKey
      simp only [Sem.run_bind, run_underlying hu, Result.andThen_ok]
      rfl
    exact this 9999
  · have : ∀ n, Instr.sameBits n (kvO k) (kvO k) = true := fun n => by
      cases k <;> cases n <;> simp [Instr.sameBits, kvO]
    exact this 10000

/-! ### What the clone owns -/
theorem idxOf_app {ord : List Nat} {i : Nat} (h : i ∈ ord) (o : List Nat) : (ord ++ o).idxOf i = ord.idxOf i := by
  rw [List.idxOf_append, if_pos h]

structure OwnAt (bs ord nbs : List Nat) (l : List (Ent (Option Nat))) (c : Nat) : Prop where
  wf : MapWf l c
  get : ∀ i (h : i < bs.length), getE (some bs[i]) l = if i ∈ ord then some (.pointer (filePtr nbs (ord.idxOf i))) else none
  keys : ∀ e ∈ l, ∃ i, ∃ (h : i < bs.length), e.k = some bs[i]
  nodup : ord.Nodup
  lt : ∀ i ∈ ord, i < bs.length
  len : nbs.length = ord.length

def cellM (q m : Nat) : Chunk := (q, .cells #[.map (some m)] 170 (0, 0))
abbrev ownM (m : Nat) (l : List (Ent (Option Nat))) (c : Nat) : Chunk := mapC kvO m l c

theorem OwnAt.nil (bs : List Nat) : OwnAt bs [] [] [] 0 := ⟨MapWf.nil _, fun i h => by simp [getE], (fun e he => by cases he), List.nodup_nil, (fun i hi => by cases hi), rfl⟩

theorem filePtr_app {nbs : List Nat} {i : Nat} (h : i < nbs.length) (o : List Nat) : filePtr (nbs ++ o) i = filePtr nbs i := by
  simp [filePtr, List.getElem?_append_left h]

theorem OwnAt.step {bs ord nbs : List Nat} {l : List (Ent (Option Nat))} {c i b : Nat} (h : OwnAt bs ord nbs l c) (hn : bs.Nodup) (hi : i < bs.length) (ho : i ∉ ord) :
    OwnAt bs (ord ++ [i]) (nbs ++ [b]) (setE (some bs[i]) (.pointer (some ⟨b, 0, none⟩)) c l) (if (getE (some bs[i]) l).isSome then c else c + 1) := by
  refine ⟨h.wf.set _ _, fun j hj => ?_, fun e he => ?_, ?_, fun j hj => ?_, by simp [h.len]⟩
  · rw [getE_setE]
    by_cases hij : j = i
    · subst hij
      rw [if_pos rfl, if_pos (by simp), List.idxOf_append, if_neg ho]
      have e : List.idxOf j [j] = 0 := by simp
      rw [e, Nat.zero_add, ← h.len]
      simp [filePtr]
    · have hne : ¬ bs[j] = bs[i] := fun e => hij ((List.getElem_inj hn).1 e)
      rw [if_neg (fun e => hne (Option.some.inj e)), h.get j hj]
      by_cases hjo : j ∈ ord
      · rw [if_pos hjo, if_pos (by simp [hjo]), idxOf_app hjo, filePtr_app (by rw [h.len]; exact List.idxOf_lt_length_iff.2 hjo)]
      · rw [if_neg hjo, if_neg (by simp [hjo, hij])]
  · have hm : e.k ∈ (setE (some bs[i]) (.pointer (some ⟨b, 0, none⟩)) c l).map (·.k) := List.mem_map.2 ⟨e, he, rfl⟩
    rcases (setE_mem _ _ _ _ _).1 hm with h1 | h1
    · obtain ⟨e', he', h2⟩ := List.mem_map.1 h1
      obtain ⟨j, hj, h3⟩ := h.keys e' he'
      exact ⟨j, hj, h2.symm.trans h3⟩
    · exact ⟨i, hi, h1⟩
  · rw [List.nodup_append]
    refine ⟨h.nodup, by simp, fun a ha b hb => ?_⟩
    simp at hb
    subst hb
    exact fun e => ho (e ▸ ha)
  · rcases List.mem_append.1 hj with hj | hj
    · exact h.lt j hj
    · simp at hj
      subst hj
      exact hi

theorem ptr_inj {b b' : Nat} (h : (⟨b, 0, none⟩ : Addr) = ⟨b', 0, none⟩) : b = b' := congrArg Addr.block h

/-- own, of a file. -/
theorem k106 {E w : World} {Y I : List Chunk} {M : MDisk} {D : DS} {q m : Nat} {ord : List Nat} {nfs : List FRec} {l : List (Ent (Option Nat))} {c : Nat} (hS : Sep E w (ownM m l c :: (cellM q m :: (nfs.map fChunk ++ Y)))) (hD : DRep D M I) (hF : ∀ x ∈ D.fs.map fChunk, x ∈ Y) (hn : D.bs.Nodup)
    (hO : OwnAt D.bs ord (nfs.map (·.b)) l c) (hf : nfs.map (·.f) = ord.map M.fileAt) (hb : ∀ r ∈ nfs, RdB I r.s r.f.bytes) {i : Nat} (hi : i < D.bs.length) :
    callV Pr (.func (.func 106) #[] #[.pointer (some ⟨q, 0, none⟩)]) [.pointer (filePtr D.bs i)] w fun e w' => ∃ (o : List Nat) (nf : List FRec) (l' : List (Ent (Option Nat))) (c' : Nat), e = .returned (.pointer (filePtr ((nfs ++ nf).map (·.b)) ((ord ++ o).idxOf i))) ∧ i ∈ ord ++ o ∧ OwnAt D.bs (ord ++ o) ((nfs ++ nf).map (·.b)) l' c' ∧
      (nfs ++ nf).map (·.f) = (ord ++ o).map M.fileAt ∧ (∀ r ∈ nfs ++ nf, RdB I r.s r.f.bytes) ∧ Sep E w' (ownM m l' c' :: (cellM q m :: ((nfs ++ nf).map fChunk ++ Y))) := by
  refine ⟨by kernel_rfl, ?_⟩
  show Calls Pr 106 #[.pointer (filePtr D.bs i), .pointer (some ⟨q, 0, none⟩)] w _
  obtain ⟨A, r, B, hfs, _, hp, hfa, hr⟩ := hD.file hi
  have hbi : D.bs[i] = r.b := by
    have h1 := filePtr_some hi
    rw [hp] at h1
    exact (ptr_inj (Option.some.inj h1)).symm
  have hkey : ∀ {w : World} {l : List (Ent (Option Nat))} {L : List Chunk}, Sep E w L → (∀ x ∈ Y, x ∈ L) → (∀ e ∈ l, ∃ i, ∃ (h : i < D.bs.length), e.k = some D.bs[i]) → KeyOk Pr 141 kvO w l (some r.b) := by
    intro w l L hS hY hk
    have hpl : ∀ i (h : i < D.bs.length), Plain w D.bs[i] := fun i h => by
      have hm : D.bs[i] ∈ D.fs.map (·.b) := List.getElem_mem h
      obtain ⟨r', hr', e⟩ := List.mem_map.1 hm
      rw [← e]
      exact hS.plain (hY _ (hF _ (List.mem_map.2 ⟨r', hr', rfl⟩)))
    refine keyOk_optr u141 s146 (fun b hb => ?_) (fun x hx b hb => ?_)
    · have : b = D.bs[i] := by rw [hbi]; exact (Option.some.inj hb).symm
      rw [this]
      exact hpl i hi
    · obtain ⟨j, hj, hk'⟩ := hk x hx
      rw [hk'] at hb
      rw [← Option.some.inj hb]
      exact hpl j hj
  rw [hp]
  refine call106 ?_
  unfold ir106
  refine brc_true rfl ?_
  have hget := hO.get i hi
  rw [hbi] at hget
  have lk : ∀ {w : World} {l : List (Ent (Option Nat))} {c : Nat} {L : List Chunk}, Sep E w L → (ownM m l c ∈ L) → (∀ x ∈ Y, x ∈ L) → (∀ e ∈ l, ∃ i, ∃ (h : i < D.bs.length), e.k = some D.bs[i]) → At Pr w (Instr.lookup 170 (.map (some m)) (.pointer (some ⟨r.b, 0, none⟩)) false) ((getE (some r.b) l).getD (.pointer none)) := by
    intro w l c L hS hm hY hk
    have := hS.lookup (mt := 170) hm u170 z141 (hkey hS hY hk)
    exact this
  have hY : ∀ x ∈ Y, x ∈ ownM m l c :: (cellM q m :: (nfs.map fChunk ++ Y)) := fun x hx => by simp [hx]
  have h1 := lk hS List.mem_cons_self hY hO.keys
  rw [hget] at h1
  refine ⟨some m, hS.load (b := q) (o := 0) (List.mem_cons_of_mem _ List.mem_cons_self) rfl (by kernel_rfl), ?_⟩
  by_cases ho : i ∈ ord
  · rw [if_pos ho] at h1
    have hidx := List.idxOf_lt_length_iff.2 ho
    have hidx2 : ord.idxOf i < (nfs.map (·.b)).length := by rw [hO.len]; exact hidx
    have h1 : At Pr w (Instr.lookup 170 (.map (some m)) (.pointer (some ⟨r.b, 0, none⟩)) false) (.pointer (filePtr (nfs.map (·.b)) (ord.idxOf i))) := h1
    refine ⟨_, h1, brc_false (by rw [filePtr_some hidx2]; rfl) ⟨some m, hS.load (b := q) (o := 0) (List.mem_cons_of_mem _ List.mem_cons_self) rfl (by kernel_rfl), _, h1, ?_⟩⟩
    refine ⟨[], [], l, c, ?_, ?_, ?_, ?_, ?_, ?_⟩
    · simp only [List.append_nil]
    · simpa using ho
    · simpa only [List.append_nil] using hO
    · simpa only [List.append_nil] using hf
    · simpa only [List.append_nil] using hb
    · simpa only [List.append_nil] using hS
  · rw [if_neg ho] at h1
    have h1 : At Pr w (Instr.lookup 170 (.map (some m)) (.pointer (some ⟨r.b, 0, none⟩)) false) (.pointer none) := h1
    refine ⟨_, h1, brc_true rfl ?_⟩
    let L0 := ownM m l c :: (cellM q m :: (nfs.map fChunk ++ Y))
    have mr : fChunk r ∈ L0 := hY _ (hF _ (List.mem_map.2 ⟨r, hr, rfl⟩))
    refine ⟨fun w => Sep E w L0, hS.drew, some m, fun w hw => Sep.load (L := L0) hw (b := q) (o := 0) (List.mem_cons_of_mem _ List.mem_cons_self) rfl (by kernel_rfl), r.s, fun w hw => Sep.load (L := L0) hw (b := r.b) (o := 0) mr rfl (by kernel_rfl), (r.f.kept : Int), fun w hw => Sep.load (L := L0) hw (b := r.b) (o := 1) mr rfl (by kernel_rfl), ?_⟩
    obtain ⟨nb, w2, h2, hS2⟩ := hS.drew.newVar (t := 146) (v := .agg #[slV r.s, .int .i64 (r.f.kept : Int)])
    refine ⟨_, w2, h2, fun w => Sep E w L0, fun w hw => hw, hS2.weak (by intro f; simp only [L0, ms_append, ms_cons, ms_nil]; omega), ?_⟩
    have hS2' : Sep E w2 (ownM m l c :: (fChunk ⟨nb, r.s, r.f⟩ :: (cellM q m :: (nfs.map fChunk ++ Y)))) := Sep.weak (L := fChunk ⟨nb, r.s, r.f⟩ :: (ownM m l c :: (cellM q m :: (nfs.map fChunk ++ Y)))) hS2 (by intro f; simp only [ms_append, ms_cons, ms_nil]; omega)
    obtain ⟨w3, h3, hS3⟩ := hS2'.mapUpdate (mt := 170) u170 (.pointer (some ⟨nb, 0, none⟩)) (hkey hS2' (fun x hx => by simp [hx]) hO.keys)
    refine ⟨w3, h3, fun _ => True, trivial, some m, hS3.load (b := q) (o := 0) (cs := #[.map (some m)]) (T := 170) (fr := (0, 0)) (by simp [cellM]) rfl (by kernel_rfl), ?_⟩
    have hst := hO.step (b := nb) hn hi ho
    rw [hbi] at hst
    have h4 := lk hS3 List.mem_cons_self (fun x hx => by simp [hx]) hst.keys
    have hg4 := hst.get i hi
    rw [hbi, if_pos (by simp)] at hg4
    rw [hg4] at h4
    have h4 : At Pr w3 (Instr.lookup 170 (.map (some m)) (.pointer (some ⟨r.b, 0, none⟩)) false) (.pointer (filePtr (nfs.map (·.b) ++ [nb]) ((ord ++ [i]).idxOf i))) := h4
    refine ⟨_, h4, [i], [⟨nb, r.s, r.f⟩], _, _, ?_, by simp, by rw [List.map_append]; exact hst, ?_, fun x hx => ?_, ?_⟩
    · rw [List.map_append]
      rfl
    · rw [List.map_append, hf, List.map_append]
      show _ ++ [r.f] = _ ++ [M.fileAt i]
      rw [hfa]
    · rcases List.mem_append.1 hx with hx | hx
      · exact hb x hx
      · rw [List.mem_singleton] at hx
        subst hx
        exact hD.bytes r hr
    · exact hS3.weak (by intro f; simp only [ownM, List.map_append, List.map_cons, List.map_nil, ms_append, ms_cons, ms_nil]; omega)

/-- own, of none. -/
theorem k106n {E w : World} {Y : List Chunk} {bs ord nbs : List Nat} {q m : Nat} {l : List (Ent (Option Nat))} {c : Nat} (hS : Sep E w (ownM m l c :: (cellM q m :: Y))) (hO : OwnAt bs ord nbs l c) (hpl : ∀ i (h : i < bs.length), Plain w bs[i]) :
    callV Pr (.func (.func 106) #[] #[.pointer (some ⟨q, 0, none⟩)]) [.pointer none] w fun e w' => e = .returned (.pointer none) ∧ w' = w := by
  refine ⟨by kernel_rfl, ?_⟩
  show Calls Pr 106 #[.pointer none, .pointer (some ⟨q, 0, none⟩)] w _
  refine call106 ?_
  unfold ir106
  refine brc_false rfl ⟨some m, hS.load (b := q) (o := 0) (List.mem_cons_of_mem _ List.mem_cons_self) rfl (by kernel_rfl), none, ?_, rfl, rfl⟩
  have hk : KeyOk Pr 141 kvO w l none := keyOk_optr u141 s146 (fun b hb => by cases hb) (fun x hx b hb => by
    obtain ⟨j, hj, hk'⟩ := hO.keys x hx
    rw [hk'] at hb
    rw [← Option.some.inj hb]
    exact hpl j hj)
  have := hS.lookup (mt := 170) List.mem_cons_self u170 z141 hk
  have hn : getE (none : Option Nat) l = none := getE_none.2 fun e he h => by
    obtain ⟨j, hj, hk'⟩ := hO.keys e he
    rw [hk'] at h
    cases h
  rw [hn] at this
  exact this

end Go.Proofs.Ytonjaaljnjjjcaa

/- The reference's disk: names by lists. Conditions: as each lemma says. -/
set_option linter.unusedVariables false
set_option linter.unusedSimpArgs false
namespace Go.Proofs.Ytonjaaljnjjjcaa
open Go Go.RowKit

def encN (x : ByteArray × Nat) : List Value := [.string x.1, .int .i64 (x.2 : Int)]
theorem encN_ok : EncOk encN 2 := ⟨fun _ => rfl, fun x u hu => by simp [encN] at hu; rcases hu with rfl | rfl <;> rfl, by decide⟩
theorem ti156 : TI 156 163 2 24 (.agg #[.string ByteArray.empty, .int .i64 0]) := ⟨by kernel_rfl, by kernel_rfl, rfl, by decide⟩
theorem bsN (x : ByteArray × Nat) : bsV Pr 156 1 [(0, .agg #[.string x.1, .int .i64 (x.2 : Int)])] = some (encN x) := by kernel_rfl

def findI (k : ByteArray) (nm : Names) : Int := match findN k nm with
  | none => -1
  | some i => (i : Int)

theorem drop_at {α : Type} {l : List α} {j : Nat} {x : α} (h : l[j]? = some x) : l.drop j = x :: l.drop (j + 1) := by
  obtain ⟨hj, rfl⟩ := List.getElem?_eq_some_iff.1 h
  exact List.drop_eq_getElem_cons hj
theorem take_at {α : Type} {l : List α} {j : Nat} {x : α} (h : l[j]? = some x) : l.take (j + 1) = l.take j ++ [x] := by
  rw [List.take_add_one, h]; rfl

/-- find. -/
theorem k105 {E w : World} {L I : List Chunk} {s : SV} {nm : Names} (hS : Sep E w L) (hr : RdS I 2 s (nm.flatMap encN)) (hI : ∀ c ∈ I, c ∈ L) (hn : nm.length ≤ 1000000000000) (k : ByteArray) :
    Calls Pr 105 #[.slice s.a s.len s.cap, .string k] w fun e w' => e = .returned (.int .i64 (findI k nm)) ∧ w' = w := by
  refine call105 ?_
  unfold ir105
  have hsz := RdG.size encN_ok hr
  refine ⟨fun n σ w1 => ∃ j : Nat, j ≤ nm.length ∧ n = nm.length - j ∧ σ = ((j : Int), ()) ∧ w1 = w ∧ findN k nm = findN k (nm.drop j), nm.length, ⟨0, Nat.zero_le _, rfl, rfl, rfl, rfl⟩, ?_⟩
  rintro n σ w1 ⟨j, hj, rfl, rfl, rfl, hf⟩ _
  dsimp only
  refine brc_intro (fun h => ?_) (fun h => ?_)
  · have h : j < nm.length := by simp at h; omega
    have hx : nm[j]? = some nm[j] := List.getElem?_eq_getElem h
    generalize nm[j] = x at hx
    obtain ⟨a, ha, _, hat⟩ := RdG.at_ encN_ok hr hx
    rw [ha]
    refine ⟨⟨by omega, by omega⟩, x.1, hat (j := 0) (v := .string x.1) (t := 9) rfl (by kernel_rfl) hS hI, ?_⟩
    rw [drop_at hx] at hf
    rw [ba_eq_toList]
    refine brc_intro (fun he => ?_) (fun he => ?_)
    · have he : x.1 = k := by simpa using he
      refine ⟨⟨by omega, by omega⟩, (x.2 : Int), hat (j := 1) (v := .int .i64 (x.2 : Int)) (t := 3) rfl (by kernel_rfl) hS hI, ?_, rfl⟩
      unfold findI
      rw [hf]
      simp [findN, he]
    · have he : ¬ x.1 = k := by simpa using he
      refine ⟨nm.length - (j + 1), by omega, j + 1, by omega, rfl, by rw [w64 (by omega) (by omega)]; rfl, rfl, ?_⟩
      rw [hf]
      simp [findN, he]
  · have h : j = nm.length := by simp at h; omega
    subst h
    refine ⟨?_, rfl⟩
    unfold findI
    rw [hf, List.drop_length]
    rfl

theorem delN_app (k : ByteArray) : ∀ l m : Names, delN k (l ++ m) = delN k l ++ delN k m
  | [], _ => rfl
  | x :: l, m => by
    have h1 : ∀ t : Names, delN k (x :: t) = if x.1 = k then delN k t else x :: delN k t := fun _ => rfl
    rw [List.cons_append, h1, h1, delN_app k l m]
    split <;> rfl
theorem insN_cons (k : ByteArray) (f : Nat) (x : ByteArray × Nat) (t : Names) : insN k f (x :: t) = if nlt k x.1 then (k, f) :: x :: t else x :: insN k f t := rfl

/-- without. -/
theorem k144 {E w : World} {L I : List Chunk} {s : SV} {nm : Names} (hS : Sep E w L) (hr : RdS I 2 s (nm.flatMap encN)) (hI : ∀ c ∈ I, c ∈ L) (hn : nm.length ≤ 1000000000000) (k : ByteArray) :
    Calls Pr 144 #[.slice s.a s.len s.cap, .string k] w fun e w' => ∃ (s' : SV) (C G : List Chunk), e = .returned (.slice s'.a s'.len s'.cap) ∧ Own 163 2 s' ((delN k nm).flatMap encN) C ∧ Sep E w' (C ++ (G ++ L)) := by
  refine call144 ?_
  unfold ir144
  have hsz := RdG.size encN_ok hr
  refine ⟨fun n σ w1 => ∃ (j : Nat) (C G : List Chunk), j ≤ nm.length ∧ n = nm.length - j ∧ σ.1 = (j : Int) ∧ Own 163 2 σ.2.1 ((delN k (nm.take j)).flatMap encN) C ∧ Sep E w1 (C ++ (G ++ L)), nm.length, ⟨0, [], [], Nat.zero_le _, rfl, rfl, Own.nil _ _, hS⟩, ?_⟩
  rintro n ⟨jj, s', u⟩ w1 ⟨j, C, G, hj, rfl, hjj, ho, hS1⟩ _
  dsimp only at hjj ho ⊢
  subst hjj
  have hI1 : ∀ c ∈ I, c ∈ C ++ (G ++ L) := fun c hc => by simp [hI c hc]
  refine brc_intro (fun h => ?_) (fun h => ?_)
  · have h : j < nm.length := by simp at h; omega
    have hx : nm[j]? = some nm[j] := List.getElem?_eq_getElem h
    generalize nm[j] = x at hx
    obtain ⟨a, ha, hat0, hat⟩ := RdG.at_ encN_ok hr hx
    rw [ha]
    refine ⟨⟨by omega, by omega⟩, x.1, hat (j := 0) (v := .string x.1) (t := 9) rfl (by kernel_rfl) hS1 hI1, ?_⟩
    rw [ba_eq_toList]
    have ht : delN k (nm.take (j + 1)) = delN k (nm.take j) ++ if x.1 = k then [] else [x] := by
      rw [take_at hx, delN_app]
      rfl
    refine brc_intro (fun he => ?_) (fun he => ?_)
    · have he : ¬ x.1 = k := by simpa using he
      rw [if_neg he] at ht
      refine ⟨⟨by omega, by omega⟩, x.1, (x.2 : Int), hat0 (t := 163) (by kernel_rfl) (by kernel_rfl) hS1 hI1, ?_⟩
      have hl : (delN k (nm.take j)).length ≤ nm.length := by
        have h1 := delN_len k (nm.take j)
        have h2 : (nm.take j).length ≤ nm.length := by rw [List.length_take]; omega
        omega
      obtain ⟨s2, w2, h2, s3, w3, C', G', h3, ho3, hS3⟩ := Sep.pushG encN_ok ti156 (x := x) (v := .agg #[.string x.1, .int .i64 (x.2 : Int)]) (ty := 156) hS1 ho (bsN x) (by omega) (by unfold maxLen; omega)
      refine ⟨s2, w2, h2, s3, w3, h3, nm.length - (j + 1), by omega, j + 1, C', G' ++ G, by omega, rfl, by rw [w64 (by omega) (by omega)]; rfl, by rw [ht]; exact ho3, hS3.weak (by intro f; simp only [ms_append, ms_cons, ms_nil]; omega)⟩
    · have he : x.1 = k := by simpa using he
      rw [if_pos he, List.append_nil] at ht
      exact ⟨nm.length - (j + 1), by omega, j + 1, C, G, by omega, rfl, by rw [w64 (by omega) (by omega)]; rfl, by rw [ht]; exact ho, hS1⟩
  · have h : j = nm.length := by simp at h; omega
    subst h
    rw [List.take_length] at ho
    exact ⟨s', C, G, rfl, ho, hS1⟩

theorem greater (a b : ByteArray) : (!((Op.bytesLess (ByteArray.toList a) (ByteArray.toList b)) || (ByteArray.toList a == ByteArray.toList b))) = decide (nlt b a) := by
  rw [ba_eq_toList]
  by_cases h : nlt b a
  · have h1 : ¬ nlt a b := fun e => nlt_irrefl a (nlt_trans e h)
    have h2 : ¬ a = b := fun e => nlt_irrefl a (by rw [← e] at h; exact h)
    have h1' : Op.bytesLess (ByteArray.toList a) (ByteArray.toList b) = false := by simpa [nlt] using h1
    simp [h, h1', h2]
  · by_cases h2 : a = b
    · subst h2
      simp [nlt_irrefl]
    · have h1 : nlt a b := (nlt_total h2).resolve_right h
      have h1' : Op.bytesLess (ByteArray.toList a) (ByteArray.toList b) = true := h1
      simp [h, h1']

/-- with. -/
theorem k143 {E w : World} {L I : List Chunk} {s : SV} {nm : Names} (hS : Sep E w L) (hr : RdS I 2 s (nm.flatMap encN)) (hI : ∀ c ∈ I, c ∈ L) (hn : nm.length ≤ 100000000000) (k : ByteArray) (f : Nat) :
    Calls Pr 143 #[.slice s.a s.len s.cap, .string k, .int .i64 (f : Int)] w fun e w' => ∃ (s' : SV) (C G : List Chunk), e = .returned (.slice s'.a s'.len s'.cap) ∧ Own 163 2 s' ((insN k f (delN k nm)).flatMap encN) C ∧ Sep E w' (C ++ (G ++ L)) := by
  refine call143 ?_
  unfold ir143
  refine (k144 hS hr hI (by omega) k).mono ?_
  rintro _ w1 ⟨s1, C1, G1, rfl, ho1, hS1⟩
  refine ⟨s1, rfl, ?_⟩
  have hdl := delN_len k nm
  generalize hrest : delN k nm = rest at *
  have hr1 := ho1.rds
  have hsz := RdG.size encN_ok hr1
  let F := C1 ++ (G1 ++ L)
  refine ⟨fun n σ w2 => ∃ (j : Nat) (out : Names) (C G : List Chunk), j ≤ rest.length ∧ n = rest.length - j ∧ σ.1 = (j : Int) ∧ out.length ≤ j + 1 ∧ (σ.2.1 = false → out.length = j) ∧ insN k f rest = out ++ (if σ.2.1 = true then rest.drop j else insN k f (rest.drop j)) ∧ Own 163 2 σ.2.2.1 (out.flatMap encN) C ∧ Sep E w2 (C ++ (G ++ F)), rest.length, ⟨0, [], [], [], Nat.zero_le _, rfl, rfl, by simp, fun _ => rfl, rfl, Own.nil _ _, hS1⟩, ?_⟩
  rintro n ⟨jj, put, s', u⟩ w2 ⟨j, out, C, G, hj, rfl, hjj, hol, hol2, hins, ho, hS2⟩ _
  dsimp only at hjj hol hol2 hins ho ⊢
  subst hjj
  have hI2 : ∀ c ∈ C1, c ∈ C ++ (G ++ F) := fun c hc => by simp [F, hc]
  refine brc_intro (fun h => ?_) (fun h => ?_)
  · have h : j < rest.length := by simp at h; omega
    have hx : rest[j]? = some rest[j] := List.getElem?_eq_getElem h
    generalize rest[j] = x at hx
    obtain ⟨a, ha, hat0, hat⟩ := RdG.at_ encN_ok hr1 hx
    rw [ha]
    rw [drop_at hx] at hins
    -- one more behind
    have push : ∀ {C G : List Chunk} {s' : SV} {out : Names} {w2 : World} (y : ByteArray × Nat), out.length ≤ j + 1 → Own 163 2 s' (out.flatMap encN) C → Sep E w2 (C ++ (G ++ F)) → ∃ (s2 : SV) (w3 : World), Sem.run Pr (Instr.buildSlice 156 1 #[(0, .agg #[.string y.1, .int .i64 (y.2 : Int)])]) w2 = .ok (.slice s2.a s2.len s2.cap) w3 ∧
        ∃ (s3 : SV) (w4 : World) (C' G' : List Chunk), Sem.run Pr (Builtin.append_ #[156, 156] 156 #[.slice s'.a s'.len s'.cap, .slice s2.a s2.len s2.cap]) w3 = .ok (.slice s3.a s3.len s3.cap) w4 ∧ Own 163 2 s3 ((out ++ [y]).flatMap encN) C' ∧ Sep E w4 (C' ++ (G' ++ F)) := by
      intro C G s' out w2 y hl ho hS2
      obtain ⟨s2, w3, h2, s3, w4, C', G', h3, ho3, hS3⟩ := Sep.pushG encN_ok ti156 (x := y) (v := .agg #[.string y.1, .int .i64 (y.2 : Int)]) (ty := 156) hS2 ho (bsN y) (by omega) (by unfold maxLen; omega)
      exact ⟨s2, w3, h2, s3, w4, C', G' ++ G, h3, ho3, hS3.weak (by intro f; simp only [ms_append, ms_cons, ms_nil]; omega)⟩
    refine brc_intro (fun hp => ?_) (fun hp => ?_)
    · have hp : put = false := by simpa using hp
      subst hp
      simp only [Bool.false_eq_true, if_false] at hins
      have hl0 := hol2 rfl
      refine ⟨⟨by omega, by omega⟩, x.1, hat (j := 0) (v := .string x.1) (t := 9) rfl (by kernel_rfl) hS2 hI2, ?_⟩
      rw [greater]
      rw [insN_cons] at hins
      refine brc_intro (fun hg => ?_) (fun hg => ?_)
      · have hg : nlt k x.1 := by simpa using hg
        rw [if_pos hg] at hins
        obtain ⟨s2, w3, h2, s3, w4, C', G', h3, ho3, hS3⟩ := push (k, f) hol ho hS2
        refine ⟨s2, w3, h2, s3, w4, h3, ⟨by omega, by omega⟩, x.1, (x.2 : Int), hat0 (t := 163) (by kernel_rfl) (by kernel_rfl) hS3 (fun c hc => by simp [F, hc]), ?_⟩
        obtain ⟨s4, w5, h4, s5, w6, C2, G2, h5, ho5, hS5⟩ := push x (by simp; omega) ho3 hS3
        refine ⟨s4, w5, h4, s5, w6, h5, rest.length - (j + 1), by omega, j + 1, _, C2, G2, by omega, rfl, by rw [w64 (by omega) (by omega)]; rfl, by simp; omega, (fun e => by cases e), ?_, ho5, hS5⟩
        rw [hins]
        simp
      · have hg : ¬ nlt k x.1 := by simpa using hg
        rw [if_neg hg] at hins
        refine ⟨⟨by omega, by omega⟩, x.1, (x.2 : Int), hat0 (t := 163) (by kernel_rfl) (by kernel_rfl) hS2 hI2, ?_⟩
        obtain ⟨s4, w5, h4, s5, w6, C2, G2, h5, ho5, hS5⟩ := push x hol ho hS2
        refine ⟨s4, w5, h4, s5, w6, h5, rest.length - (j + 1), by omega, j + 1, _, C2, G2, by omega, rfl, by rw [w64 (by omega) (by omega)]; rfl, by simp; omega, (fun _ => by simp; omega), ?_, ho5, hS5⟩
        rw [hins]
        simp
    · have hp : put = true := by simpa using hp
      subst hp
      simp only [if_true] at hins
      refine ⟨⟨by omega, by omega⟩, x.1, (x.2 : Int), hat0 (t := 163) (by kernel_rfl) (by kernel_rfl) hS2 hI2, ?_⟩
      obtain ⟨s4, w5, h4, s5, w6, C2, G2, h5, ho5, hS5⟩ := push x hol ho hS2
      refine ⟨s4, w5, h4, s5, w6, h5, rest.length - (j + 1), by omega, j + 1, _, C2, G2, by omega, rfl, by rw [w64 (by omega) (by omega)]; rfl, by simp; omega, (fun e => by cases e), ?_, ho5, hS5⟩
      rw [hins]
      simp
  · have h : j = rest.length := by simp at h; omega
    subst h
    rw [List.drop_length] at hins
    refine brc_intro (fun hp => ?_) (fun hp => ?_)
    · have hp : put = false := by simpa using hp
      subst hp
      simp only [Bool.false_eq_true, if_false] at hins
      obtain ⟨s2, w3, h2, s3, w4, C', G', h3, ho3, hS3⟩ := Sep.pushG encN_ok ti156 (x := (k, f)) (v := .agg #[.string k, .int .i64 (f : Int)]) (ty := 156) hS2 ho (bsN (k, f)) (by omega) (by unfold maxLen; omega)
      refine ⟨s2, w3, h2, s3, w4, h3, s3, C', G' ++ (G ++ (C1 ++ G1)), rfl, ?_, hS3.weak (by intro g; simp only [F, ms_append, ms_cons, ms_nil]; omega)⟩
      rw [hins]
      exact ho3
    · have hp : put = true := by simpa using hp
      subst hp
      simp only [if_true, List.append_nil] at hins
      refine ⟨s', C, G ++ (C1 ++ G1), rfl, ?_, hS2.weak (by intro g; simp only [F, ms_append, ms_cons, ms_nil]; omega)⟩
      rw [hins]
      exact ho

def encC (c : MChange) : List Value := [.string c.gone, .string c.new, .int .i64 (if c.gone = noName then (c.file : Int) else 0)]
theorem encC_ok : EncOk encC 3 := ⟨fun _ => rfl, fun x u hu => by simp [encC] at hu; rcases hu with rfl | rfl | rfl <;> rfl, by decide⟩
theorem ti157 : TI 157 166 3 40 (.agg #[.string ByteArray.empty, .string ByteArray.empty, .int .i64 0]) := ⟨by kernel_rfl, by kernel_rfl, rfl, by decide⟩

theorem ba_eq0 (s : ByteArray) : (ByteArray.toList s == ByteArray.toList (⟨#[]⟩ : ByteArray)) = decide (s = noName) := by
  rw [ba_eq_toList]
  rfl

/-- change. -/
theorem k104 {E w : World} {L I : List Chunk} {s : SV} {nm : Names} (hS : Sep E w L) (hr : RdS I 2 s (nm.flatMap encN)) (hI : ∀ c ∈ I, c ∈ L) (hn : nm.length ≤ 100000000000) (he : NoEmpty nm) {c : MChange} (hf : Fits nm c) :
    Calls Pr 104 #[.slice s.a s.len s.cap, .agg #[.string c.gone, .string c.new, .int .i64 (if c.gone = noName then (c.file : Int) else 0)]] w fun e w' => ∃ (s' : SV) (C G : List Chunk), e = .returned (.slice s'.a s'.len s'.cap) ∧ Own 163 2 s' ((doN nm c).flatMap encN) C ∧ Sep E w' (C ++ (G ++ L)) := by
  refine call104 ?_
  unfold ir104
  generalize hfi : (if c.gone = noName then (c.file : Int) else 0) = fi
  obtain ⟨b, w1, h1, hS1⟩ := hS.newVar (t := 166) (v := .agg #[.string c.gone, .string c.new, .int .i64 fi])
  let X : Chunk := (b, .cells #[.string c.gone, .string c.new, .int .i64 fi] 166 (0, 0))
  have hS1 : Sep E w1 (X :: L) := hS1
  have hI1 : ∀ x ∈ I, x ∈ X :: L := fun x hx => List.mem_cons_of_mem _ (hI x hx)
  refine ⟨_, w1, h1, c.gone, hS1.load (o := 0) List.mem_cons_self rfl (by kernel_rfl), ?_⟩
  rw [ba_eq0]
  refine brc_intro (fun hg => ?_) (fun hg => ?_)
  · have hg : c.gone = noName := by simpa using hg
    have hnew : c.new ≠ noName := by
      rcases hf with h | h
      · exact h.2
      · exact absurd hg h.1
    rw [if_pos hg] at hfi
    subst hfi
    refine ⟨c.new, hS1.load (o := 1) List.mem_cons_self rfl (by kernel_rfl), _, hS1.load (o := 2) List.mem_cons_self rfl (by kernel_rfl), ?_⟩
    refine (k143 hS1 hr hI1 hn c.new c.file).mono ?_
    rintro _ w2 ⟨s', C, G, rfl, ho, hS2⟩
    refine ⟨s', rfl, s', C, G ++ [X], rfl, ?_, hS2.weak (by intro f; simp only [ms_append, ms_cons, ms_nil]; omega)⟩
    unfold doN
    rw [if_neg hnew, hg, delN_none (k := noName) he]
    exact ho
  · have hg : c.gone ≠ noName := by simpa using hg
    obtain ⟨i, hi, hfile⟩ : ∃ i, findN c.gone nm = some i ∧ (c.new ≠ noName → c.file = i) := by
      rcases hf with h | h
      · exact absurd h.1 hg
      · exact h.2
    refine ⟨c.gone, hS1.load (o := 0) List.mem_cons_self rfl (by kernel_rfl), ?_⟩
    refine (k105 hS1 hr hI1 (by omega) c.gone).mono ?_
    rintro _ w2 ⟨rfl, rfl⟩
    have hfind : findI c.gone nm = (i : Int) := by unfold findI; rw [hi]
    rw [hfind]
    refine ⟨_, rfl, c.gone, hS1.load (o := 0) List.mem_cons_self rfl (by kernel_rfl), ?_⟩
    refine (k144 hS1 hr hI1 (by omega) c.gone).mono ?_
    rintro _ w3 ⟨s2, C2, G2, rfl, ho2, hS2⟩
    have mX : X ∈ C2 ++ (G2 ++ X :: L) := by simp
    refine ⟨s2, rfl, c.new, hS2.load (b := b) (o := 1) mX rfl (by kernel_rfl), ?_⟩
    rw [ba_eq0]
    unfold doN
    refine brc_intro (fun hw => ?_) (fun hw => ?_)
    · have hw : c.new = noName := by simpa using hw
      rw [if_pos hw]
      exact ⟨s2, C2, G2 ++ [X], rfl, ho2, hS2.weak (by intro f; simp only [ms_append, ms_cons, ms_nil]; omega)⟩
    · have hw : c.new ≠ noName := by simpa using hw
      rw [if_neg hw]
      refine ⟨c.new, hS2.load (b := b) (o := 1) mX rfl (by kernel_rfl), ?_⟩
      have hdl := delN_len c.gone nm
      rw [hfile hw]
      refine (k143 hS2 ho2.rds (fun x hx => List.mem_append_left _ hx) (by omega) c.new i).mono ?_
      rintro _ w4 ⟨s3, C3, G3, rfl, ho3, hS3⟩
      exact ⟨s3, rfl, s3, C3, G3 ++ (C2 ++ (G2 ++ [X])), rfl, ho3, hS3.weak (by intro f; simp only [ms_append, ms_cons, ms_nil]; omega)⟩

end Go.Proofs.Ytonjaaljnjjjcaa

/- The reference's disk: how it lies, and its contracts. Conditions: as each lemma says. -/
set_option linter.unusedVariables false
set_option linter.unusedSimpArgs false
namespace Go.Proofs.Ytonjaaljnjjjcaa
open Go Go.RowKit

/-! ### A store into an owned slice -/
theorem spl_get (cs : List Value) (o : Nat) (vs : List Value) (h : o + vs.length ≤ cs.length) (i : Nat) : (spl cs o vs)[i]? = if i < o then cs[i]? else if i < o + vs.length then vs[i - o]? else cs[i]? := by
  unfold spl
  have e : (cs.take o).length = o := by rw [List.length_take]; omega
  rw [List.append_assoc]
  by_cases h1 : i < o
  · rw [List.getElem?_append_left (by omega), if_pos h1, List.getElem?_take, if_pos h1]
  · rw [List.getElem?_append_right (by omega), if_neg h1, e]
    by_cases h2 : i < o + vs.length
    · rw [List.getElem?_append_left (by omega), if_pos h2]
    · rw [List.getElem?_append_right (by omega), if_neg h2, List.getElem?_drop]
      congr 1
      omega
theorem Sep.storeOwn {E w : World} {C L : List Chunk} {T sz : Nat} {s : SV} {vs : List Value} (hS : Sep E w (C ++ L)) (ho : Own T sz s vs C) {j m : Nat} {v : Value} {t : TypeId} (hm : j + m ≤ vs.length) (hp : 0 < vs.length) (hn : sizeOf? Pr t = some m) (hv : v.cells.size = m) (h1 : ∀ u ∈ v.cells.toList, u.oneCell' = true) :
    ∃ a, s.a = some a ∧ ∃ (w' : World) (C' : List Chunk), Sem.run Pr (Instr.storeAt t (.pointer (some (a.add j))) v) w = .ok () w' ∧ Own T sz s (spl vs j v.cells.toList) C' ∧ Sep E w' (C' ++ L) := by
  have hlen := ho.len
  rcases ho.form with ⟨h1', h2, h3, rfl⟩ | ⟨g, cur, h1', rfl, h2, h3, h4, h5⟩
  · rw [h2, Nat.zero_mul] at hlen
    omega
  · refine ⟨_, h1', ?_⟩
    have hmul : s.len * sz ≤ s.cap * sz := Nat.mul_le_mul_right _ h2
    have hS' : Sep E w ((g, .cells cur.toList.toArray T (0, 0)) :: L) := hS
    obtain ⟨w', hw, hS2⟩ := hS'.store (o := j) (n := m) (v := v) (t := t) hn hv (by rw [Array.length_toList, h4]; omega) h1
    have hvl : v.cells.toList.length = m := by simpa using hv
    have htl : (cur.toList.take (s.len * sz)).length = s.len * sz := by rw [h5]; exact hlen
    refine ⟨w', [(g, .cells (spl cur.toList j v.cells.toList).toArray T (0, 0))], by rw [addr_add, Nat.zero_add]; exact hw, ⟨?_, .inr ⟨g, _, h1', rfl, h2, h3, ?_, ?_⟩⟩, hS2⟩
    · unfold spl
      simp only [List.length_append, List.length_take, List.length_drop, hvl]
      omega
    · unfold spl
      have hcl : cur.toList.length = s.cap * sz := by simpa using h4
      simp only [List.size_toArray, List.length_append, List.length_take, List.length_drop, hvl, hcl]
      omega
    · have hcl : cur.toList.length = s.cap * sz := by simpa using h4
      have hjm : j + v.cells.toList.length ≤ s.len * sz := by omega
      apply List.ext_getElem?
      intro i
      rw [List.getElem?_take, spl_get _ _ _ (by omega), spl_get _ _ _ (by omega)]
      have hvs : vs[i]? = if i < s.len * sz then cur.toList[i]? else none := by rw [← h5, List.getElem?_take]
      rw [hvs]
      by_cases hi : i < s.len * sz
      · simp only [hi, if_true]
      · simp only [hi, if_false]
        rw [if_neg (by omega), if_neg (by omega)]

theorem spl_part (P e Q vs : List Value) {j : Nat} (h : j + vs.length ≤ e.length) : spl (P ++ (e ++ Q)) (P.length + j) vs = P ++ (spl e j vs ++ Q) := by
  unfold spl
  have h1 : (P ++ (e ++ Q)).take (P.length + j) = P ++ e.take j := by
    rw [List.take_length_add_append, List.take_append_of_le_length (by omega)]
  have h2 : (P ++ (e ++ Q)).drop (P.length + j + vs.length) = e.drop (j + vs.length) ++ Q := by
    rw [Nat.add_assoc, List.drop_length_add_append, List.drop_append_of_le_length h]
  rw [h1, h2]
  simp only [List.append_assoc]

/-- A part of an element turns. -/
theorem spl_enc {α : Type} {enc : α → List Value} {sz : Nat} (h : EncOk enc sz) (A B : List α) (x x' : α) {j : Nat} {vs : List Value} (hj : j + vs.length ≤ sz) (hx : spl (enc x) j vs = enc x') :
    spl ((A ++ x :: B).flatMap enc) (A.length * sz + j) vs = (A ++ x' :: B).flatMap enc := by
  rw [List.flatMap_append, List.flatMap_cons, ← h.flat A, spl_part _ _ _ _ (by rw [h.len]; exact hj), hx, List.flatMap_append, List.flatMap_cons]

/-! ### How it lies -/
def encF (r : SV × MFile) : List Value := [slV r.1, .int .i64 (r.2.kept : Int)]
theorem encF_ok : EncOk encF 2 := ⟨fun _ => rfl, fun x u hu => by simp [encF] at hu; rcases hu with rfl | rfl <;> rfl, by decide⟩
theorem ti155 : TI 155 169 2 32 (.agg #[.slice none 0 0, .int .i64 0]) := ⟨by kernel_rfl, by kernel_rfl, rfl, by decide⟩

structure RS where
  fs : List (SV × MFile)
  sf : SV
  CF : List Chunk
  sn : SV
  sk : SV
  sc : SV
  lf : Int

def rChunkD (M : MDisk) (d : Nat) (sf sn sk sc : SV) (lf : Int) : Chunk := (d, .cells #[slV sf, slV sn, slV sk, slV sc, .int .i64 (M.room : Int), .bool M.down, .bool M.doomed, .int .i64 lf] 159 (0, 0))
def RS.chunks (R : RS) (M : MDisk) (d : Nat) : List Chunk := rChunkD M d R.sf R.sn R.sk R.sc R.lf :: R.CF

structure RRep (R : RS) (M : MDisk) (I : List Chunk) : Prop where
  files : R.fs.map (·.2) = M.files
  bytes : ∀ r ∈ R.fs, RdB I r.1 r.2.bytes
  own : Own 169 2 R.sf (R.fs.flatMap encF) R.CF
  now : RdS I 2 R.sn (M.now.flatMap encN)
  kept : RdS I 2 R.sk (M.kept.flatMap encN)
  chs : RdS I 3 R.sc (M.changes.flatMap encC)
  left : M.doomed = true → M.down = false → R.lf = (M.left : Int)

theorem RRep.mono {R : RS} {M : MDisk} {I I' : List Chunk} (h : RRep R M I) (hI : ∀ c ∈ I, c ∈ I') : RRep R M I' :=
  ⟨h.files, fun r hr => (h.bytes r hr).mono hI, h.own, h.now.mono hI, h.kept.mono hI, h.chs.mono hI, h.left⟩
theorem RRep.right {R : RS} {M : MDisk} {I : List Chunk} (h : RRep R M I) (C : List Chunk) : RRep R M (C ++ I) := h.mono fun c hc => List.mem_append_right _ hc

theorem ready_40 {M : MDisk} (h : M.ready.1 ≠ 0) : M.ready.1 = 40 := by
  unfold MDisk.ready at h ⊢
  split
  · rfl
  · rename_i h1
    rw [if_neg h1] at h
    split
    · rename_i h2
      rw [if_pos h2] at h
      split
      · rfl
      · rename_i h3
        rw [if_neg h3] at h
        exact absurd rfl h
    · rename_i h2
      rw [if_neg h2] at h
      exact absurd rfl h

theorem now_len {M : MDisk} (hg : M.Good) : M.now.length ≤ M.kept.length + M.changes.length := by
  rw [hg.now]
  exact foldl_len _ _

/-- right. -/
theorem k141 (w : World) (n : ByteArray) : Calls Pr 141 #[.string n] w fun e w' => e = .returned (.bool (MDisk.right n)) ∧ w' = w := by
  refine call141 ?_
  unfold ir141
  refine brc_intro (fun h => ?_) (fun h => ?_)
  · refine ⟨?_, rfl⟩
    have h : 1 ≤ n.size := by simp at h; omega
    congr 2
    simp only [MDisk.right, h, decide_true, Bool.true_and]
    rw [decide_eq_decide]
    omega
  · refine ⟨?_, rfl⟩
    have h : ¬ 1 ≤ n.size := by simp at h; omega
    simp [MDisk.right, h]

/-- down. -/
theorem k126 {E w : World} {L I : List Chunk} {M : MDisk} {R : RS} {d : Nat} (hl : M.left ≤ 9223372036854775807) (hS : Sep E w (R.chunks M d ++ L)) (hR : RRep R M I) :
    Calls Pr 126 #[.pointer (some ⟨d, 0, none⟩)] w fun e w' => e = .returned (.bool (decide (M.ready.1 ≠ 0))) ∧ ∃ lf, RRep { R with lf := lf } M.ready.2 I ∧ Sep E w' (({ R with lf := lf } : RS).chunks M.ready.2 d ++ L) := by
  refine call126 ?_
  unfold ir126
  refine ⟨M.down, hS.load (b := d) (o := 5) List.mem_cons_self rfl (by kernel_rfl), brc_intro (fun h => ?_) (fun h => ?_)⟩
  · have h : M.down = false := by simpa using h
    refine ⟨M.doomed, hS.load (b := d) (o := 6) List.mem_cons_self rfl (by kernel_rfl), brc_intro (fun h' => ?_) (fun h' => ?_)⟩
    · have hlf := hR.left h' h
      refine ⟨R.lf, hS.load (b := d) (o := 7) List.mem_cons_self rfl (by kernel_rfl), ?_⟩
      rw [hlf]
      obtain ⟨w1, h1, hS1⟩ := Sep.store (cs := [slV R.sf, slV R.sn, slV R.sk, slV R.sc, .int .i64 (M.room : Int), .bool M.down, .bool M.doomed, .int .i64 R.lf]) (o := 5) (n := 1) (v := .bool ((M.left : Int) == 0)) (t := 4) hS (by kernel_rfl) rfl (by simp) (by simp [Value.cells, Value.oneCell'])
      refine ⟨w1, h1, R.lf, hS1.load (b := d) (o := 7) List.mem_cons_self rfl (by kernel_rfl), ?_⟩
      rw [hlf] at hS1 ⊢
      rw [w64 (by omega) (by omega)]
      obtain ⟨w2, h2, hS2⟩ := Sep.store (o := 7) (n := 1) (v := .int .i64 ((M.left : Int) - 1)) (t := 3) hS1 (by kernel_rfl) rfl (by simp [spl, Value.cells]) (by simp [Value.cells, Value.oneCell'])
      refine ⟨w2, h2, ((M.left : Int) == 0), hS2.load (b := d) (o := 5) List.mem_cons_self rfl (by kernel_rfl), ?_⟩
      by_cases h0 : M.left = 0
      · have hr : M.ready = (40, { M with down := true }) := by simp [MDisk.ready, h, h', h0]
        rw [hr]
        refine ⟨by simp [h0], (M.left : Int) - 1, ⟨hR.files, hR.bytes, hR.own, hR.now, hR.kept, hR.chs, fun _ hd => by cases hd⟩, ?_⟩
        rw [show (((M.left : Nat) : Int) == 0) = true by simp [h0]] at hS2
        exact hS2
      · have hr : M.ready = (0, { M with left := M.left - 1 }) := by simp [MDisk.ready, h, h', h0]
        rw [hr]
        refine ⟨by simp [h0], (M.left : Int) - 1, ⟨hR.files, hR.bytes, hR.own, hR.now, hR.kept, hR.chs, fun _ _ => ?_⟩, ?_⟩
        · show (M.left : Int) - 1 = ((M.left - 1 : Nat) : Int)
          omega
        · rw [show (((M.left : Nat) : Int) == 0) = M.down by rw [h]; simp [h0]] at hS2
          exact hS2
    · refine ⟨M.down, hS.load (b := d) (o := 5) List.mem_cons_self rfl (by kernel_rfl), ?_⟩
      have hr : M.ready = (0, M) := by simp [MDisk.ready, h, h']
      rw [hr, h]
      exact ⟨rfl, R.lf, hR, hS⟩
  · have h : M.down = true := by simpa using h
    refine ⟨M.down, hS.load (b := d) (o := 5) List.mem_cons_self rfl (by kernel_rfl), ?_⟩
    have hr : M.ready = (40, M) := by simp [MDisk.ready, h]
    rw [hr, h]
    exact ⟨rfl, R.lf, hR, hS⟩

theorem bsC (c : MChange) (fi : Int) (h : (if c.gone = noName then (c.file : Int) else 0) = fi) : bsV Pr 157 1 [(0, .agg #[.string c.gone, .string c.new, .int .i64 fi])] = some (encC c) := by
  subst h
  unfold encC
  generalize (if c.gone = noName then (c.file : Int) else 0) = fi
  kernel_rfl

/-- does. -/
theorem k142 {E w : World} {L I : List Chunk} {M : MDisk} {R : RS} {d : Nat} (hS : Sep E w (R.chunks M d ++ L)) (hR : RRep R M I) (hI : ∀ c ∈ I, c ∈ L) (hn : M.now.length ≤ 100000000000) (hc : M.changes.length ≤ 1000000000) (he : NoEmpty M.now) {c : MChange} (hf : Fits M.now c) {fi : Int} (hfi : (if c.gone = noName then (c.file : Int) else 0) = fi) :
    Calls Pr 142 #[.pointer (some ⟨d, 0, none⟩), .agg #[.string c.gone, .string c.new, .int .i64 fi]] w fun e w' => ∃ (R' : RS) (C : List Chunk), e = .returned (.tuple #[]) ∧ RRep R' (M.chg c) (C ++ I) ∧ Sep E w' (R'.chunks (M.chg c) d ++ (C ++ L)) := by
  refine call142 ?_
  unfold ir142
  obtain ⟨b, w1, h1, hS1⟩ := hS.newVar (t := 166) (v := .agg #[.string c.gone, .string c.new, .int .i64 fi])
  let X : Chunk := (b, .cells #[.string c.gone, .string c.new, .int .i64 fi] 166 (0, 0))
  have hS1 : Sep E w1 (X :: (R.chunks M d ++ L)) := hS1
  have hI1 : ∀ x ∈ I, x ∈ X :: (R.chunks M d ++ L) := fun x hx => by simp [hI x hx]
  refine ⟨_, w1, h1, fun w => Sep E w (X :: (R.chunks M d ++ L)), hS1.drew, ?_⟩
  refine ⟨R.sn, fun w hw => hw.load (b := d) (o := 1) (List.mem_cons_of_mem _ List.mem_cons_self) rfl (by kernel_rfl), c.gone, c.new, fi, fun w hw => hw.loadS (b := b) (o := 0) (n := 3) List.mem_cons_self (by kernel_rfl) (by kernel_rfl) rfl (by simp), ?_⟩
  have hk := k104 hS1.drew hR.now hI1 hn he hf
  rw [hfi] at hk
  refine hk.mono ?_
  rintro _ w2 ⟨s2, C2, G2, rfl, ho2, hS2⟩
  refine ⟨s2, rfl, fun _ => True, trivial, ?_⟩
  have hS2' : Sep E w2 (rChunkD M d R.sf R.sn R.sk R.sc R.lf :: (X :: (R.CF ++ (C2 ++ (G2 ++ L))))) := hS2.weak (by intro f; simp only [RS.chunks, ms_append, ms_cons, ms_nil]; omega)
  obtain ⟨w3, h3, hS3⟩ := Sep.store (cs := [slV R.sf, slV R.sn, slV R.sk, slV R.sc, .int .i64 (M.room : Int), .bool M.down, .bool M.doomed, .int .i64 R.lf]) (o := 1) (n := 1) (v := slV s2) (t := 156) hS2' (by kernel_rfl) rfl (by simp) (by simp [Value.cells, Value.oneCell'])
  let F : List Chunk := rChunkD M d R.sf s2 R.sk R.sc R.lf :: (X :: (R.CF ++ (C2 ++ (G2 ++ L))))
  have hS3 : Sep E w3 F := hS3
  let S : World → Prop := fun w => Sep E w F
  refine ⟨w3, h3, fun _ => True, trivial, S, hS3.drew, ?_⟩
  refine ⟨R.sc, fun w hw => Sep.load (L := F) hw (b := d) (o := 3) List.mem_cons_self rfl (by kernel_rfl), c.gone, c.new, fi, fun w hw => Sep.loadS (L := F) hw (b := b) (o := 0) (n := 3) (List.mem_cons_of_mem _ List.mem_cons_self) (by kernel_rfl) (by kernel_rfl) rfl (by simp), ?_⟩
  have hF : ∀ {w : World} {C : List Chunk}, Sep E w (C ++ F) → S w := fun h => h.weak (by intro f; simp only [ms_append, ms_cons, ms_nil]; omega)
  have hIF : ∀ x ∈ I, x ∈ F := fun x hx => by simp [F, hI x hx]
  have hsz := RdG.size encC_ok hR.chs
  -- the end
  have fin : ∀ (w : World) (s7 : SV) (C7 G7 : List Chunk), Own 166 3 s7 ((M.changes ++ [c]).flatMap encC) C7 → Sep E w (C7 ++ (G7 ++ F)) →
      ∃ (w8 : World), Sem.run Pr (Instr.storeAt 157 (.pointer (some (Addr.add ⟨d, 0, none⟩ 3))) (.slice s7.a s7.len s7.cap)) w = .ok () w8 ∧ ∃ (S9 : World → Prop), S9 w8 ∧ ∃ (R' : RS) (C : List Chunk), Ending.returned (.tuple #[]) = .returned (.tuple #[]) ∧ RRep R' (M.chg c) (C ++ I) ∧ Sep E w8 (R'.chunks (M.chg c) d ++ (C ++ L)) := by
    intro w s7 C7 G7 ho hS7
    have hS7' : Sep E w (rChunkD M d R.sf s2 R.sk R.sc R.lf :: (R.CF ++ ((C7 ++ (C2 ++ (X :: (G2 ++ G7)))) ++ L))) := hS7.weak (by intro f; simp only [F, ms_append, ms_cons, ms_nil]; omega)
    obtain ⟨w8, h8, hS8⟩ := Sep.store (cs := [slV R.sf, slV s2, slV R.sk, slV R.sc, .int .i64 (M.room : Int), .bool M.down, .bool M.doomed, .int .i64 R.lf]) (o := 3) (n := 1) (v := slV s7) (t := 157) hS7' (by kernel_rfl) rfl (by simp) (by simp [Value.cells, Value.oneCell'])
    refine ⟨w8, h8, fun _ => True, trivial, { R with sn := s2, sc := s7 }, C7 ++ (C2 ++ (X :: (G2 ++ G7))), rfl, ⟨hR.files, fun r hr => (hR.bytes r hr).right _, hR.own, ?_, hR.kept.right _, ?_, hR.left⟩, hS8⟩
    · exact ho2.rds.mono fun x hx => by simp [hx]
    · exact ho.rds.mono fun x hx => by simp [hx]
  refine ⟨?_, ?_⟩
  · obtain ⟨s4, w4, C4, h4, ho4, hS4⟩ := Sep.litG0 (α := MChange) (enc := encC) ti157 hS3.drew (by kernel_rfl)
    refine ⟨s4, w4, h4, S, fun w hw => hw, hF hS4, ?_, ?_⟩
    · obtain ⟨s5, w5, C5, h5, ho5, hS5⟩ := Sep.appG (ys := M.changes) (ty := 157) encC_ok ti157 hS4 ho4 ((hR.chs.mono hIF).right _) (by simp; omega) (by simp; unfold maxLen; omega)
      refine ⟨s5, w5, h5, S, fun w hw => hw, hF hS5, ?_⟩
      obtain ⟨s6, w6, C6, h6, ho6, hS6⟩ := Sep.litG1 encC_ok ti157 hS5 (bsC c fi hfi)
      have hS6' : Sep E w6 (C5 ++ (C6 ++ F)) := hS6.weak (by intro f; simp only [ms_append, ms_cons, ms_nil]; omega)
      refine ⟨s6, w6, h6, S, fun w hw => hw, hS6'.weak (by intro f; simp only [ms_append, ms_cons, ms_nil]; omega), ?_⟩
      obtain ⟨s7, w7, C7, h7, ho7, hS7⟩ := Sep.appG (ys := [c]) (ty := 157) encC_ok ti157 hS6' ho5 ((ho6.rds.left _).right _) (by simp; omega) (by simp; unfold maxLen; omega)
      refine ⟨s7, w7, h7, S, fun w hw => hw, hS7.weak (by intro f; simp only [ms_append, ms_cons, ms_nil]; omega), ?_⟩
      exact fin w7 s7 C7 C6 (by simpa using ho7) hS7
    · obtain ⟨s6, w6, C6, h6, ho6, hS6⟩ := Sep.litG1 encC_ok ti157 hS4 (bsC c fi hfi)
      have hS6' : Sep E w6 (C4 ++ (C6 ++ F)) := hS6.weak (by intro f; simp only [ms_append, ms_cons, ms_nil]; omega)
      refine ⟨s6, w6, h6, S, fun w hw => hw, hS6'.weak (by intro f; simp only [ms_append, ms_cons, ms_nil]; omega), ?_⟩
      obtain ⟨s5, w5, C5, h5, ho5, hS5⟩ := Sep.appG (ys := M.changes) (ty := 157) encC_ok ti157 hS6' ho4 (((hR.chs.mono hIF).right _).right _) (by simp; omega) (by simp; unfold maxLen; omega)
      refine ⟨s5, w5, h5, S, fun w hw => hw, hS5.weak (by intro f; simp only [ms_append, ms_cons, ms_nil]; omega), ?_⟩
      obtain ⟨s7, w7, C7, h7, ho7, hS7⟩ := Sep.appG (ys := [c]) (ty := 157) encC_ok ti157 hS5 ho5 ((ho6.rds.left _).right _) (by simp; omega) (by simp; unfold maxLen; omega)
      refine ⟨s7, w7, h7, S, fun w hw => hw, hS7.weak (by intro f; simp only [ms_append, ms_cons, ms_nil]; omega), ?_⟩
      exact fin w7 s7 C7 C6 (by simpa using ho7) hS7
  · obtain ⟨s6, w6, C6, h6, ho6, hS6⟩ := Sep.litG1 encC_ok ti157 hS3.drew (bsC c fi hfi)
    refine ⟨s6, w6, h6, S, fun w hw => hw, hF hS6, ?_⟩
    obtain ⟨s4, w4, C4, h4, ho4, hS4⟩ := Sep.litG0 (α := MChange) (enc := encC) ti157 hS6 (by kernel_rfl)
    refine ⟨s4, w4, h4, S, fun w hw => hw, hS4.weak (by intro f; simp only [ms_append, ms_cons, ms_nil]; omega), ?_⟩
    obtain ⟨s5, w5, C5, h5, ho5, hS5⟩ := Sep.appG (ys := M.changes) (ty := 157) encC_ok ti157 hS4 ho4 (((hR.chs.mono hIF).right _).right _) (by simp; omega) (by simp; unfold maxLen; omega)
    refine ⟨s5, w5, h5, S, fun w hw => hw, hS5.weak (by intro f; simp only [ms_append, ms_cons, ms_nil]; omega), ?_⟩
    obtain ⟨s7, w7, C7, h7, ho7, hS7⟩ := Sep.appG (ys := [c]) (ty := 157) encC_ok ti157 hS5 ho5 ((ho6.rds.left _).right _) (by simp; omega) (by simp; unfold maxLen; omega)
    refine ⟨s7, w7, h7, S, fun w hw => hw, hS7.weak (by intro f; simp only [ms_append, ms_cons, ms_nil]; omega), ?_⟩
    exact fin w7 s7 C7 C6 (by simpa using ho7) hS7

end Go.Proofs.Ytonjaaljnjjjcaa

/- The reference's disk: contracts of what can be done. Conditions: as each lemma says. -/
set_option linter.unusedVariables false
set_option linter.unusedSimpArgs false
namespace Go.Proofs.Ytonjaaljnjjjcaa
open Go Go.RowKit

theorem z159 : (Pr.info? 159).bind (·.zero) = some (.agg #[.slice none 0 0, .slice none 0 0, .slice none 0 0, .slice none 0 0, .int .i64 0, .bool false, .bool false, .int .i64 0]) := by kernel_rfl

/-- New. -/
theorem k36 {E w : World} {L : List Chunk} (hS : Sep E w L) (room : Int) :
    Calls Pr 36 #[.int .i64 room] w fun e w' => ∃ (R : RS) (d : Nat), e = .returned (.pointer (some ⟨d, 0, none⟩)) ∧ RRep R (MDisk.new room) [] ∧ Sep E w' (R.chunks (MDisk.new room) d ++ L) := by
  refine call36 ?_
  unfold ir36
  obtain ⟨b, w1, h1, hS1⟩ := hS.newVar (t := 159) (v := .agg #[(.slice none 0 0), (.slice none 0 0), (.slice none 0 0), (.slice none 0 0), (.int .i64 (if 0 > room then 0 else room)), (.bool false), (.bool false), (.int .i64 0)])
  refine ⟨_, w1, h1, ⟨[], SV.nil, [], SV.nil, SV.nil, SV.nil, 0⟩, b, rfl, ⟨rfl, (fun r hr => by cases hr), Own.nil _ _, RdS.none _ _, RdS.none _ _, RdS.none _ _, fun h => by cases h⟩, ?_⟩
  have hr : (if 0 > room then 0 else room) = (((MDisk.new room).room : Nat) : Int) := by
    show _ = ((room.toNat : Nat) : Int)
    split <;> omega
  rw [hr] at hS1
  exact hS1

/-- Doom. -/
theorem k59 {E w : World} {L I : List Chunk} {M : MDisk} {R : RS} {d : Nat} (hS : Sep E w (R.chunks M d ++ L)) (hR : RRep R M I) (n : Int) :
    Calls Pr 59 #[.pointer (some ⟨d, 0, none⟩), .int .i64 n] w fun e w' => ∃ R' : RS, e = .returned (.int .i64 (M.doom n).1) ∧ RRep R' (M.doom n).2 I ∧ Sep E w' (R'.chunks (M.doom n).2 d ++ L) := by
  refine call59 ?_
  unfold ir59
  unfold MDisk.doom
  refine brc_intro (fun h => ?_) (fun h => ?_)
  · have h : n < 0 := by simpa using h
    rw [if_pos h]
    exact ⟨R, rfl, hR, hS⟩
  · have h : ¬ n < 0 := by simpa using h
    rw [if_neg h]
    obtain ⟨w1, h1, hS1⟩ := Sep.store (cs := [slV R.sf, slV R.sn, slV R.sk, slV R.sc, .int .i64 (M.room : Int), .bool M.down, .bool M.doomed, .int .i64 R.lf]) (o := 6) (n := 1) (v := .bool true) (t := 4) hS (by kernel_rfl) rfl (by simp) (by simp [Value.cells, Value.oneCell'])
    refine ⟨w1, h1, ?_⟩
    obtain ⟨w2, h2, hS2⟩ := Sep.store (o := 7) (n := 1) (v := .int .i64 n) (t := 3) hS1 (by kernel_rfl) rfl (by simp [spl, Value.cells]) (by simp [Value.cells, Value.oneCell'])
    exact ⟨w2, h2, { R with lf := n }, rfl, ⟨hR.files, hR.bytes, hR.own, hR.now, hR.kept, hR.chs, fun _ _ => by show n = ((n.toNat : Nat) : Int); omega⟩, hS2⟩

/-- Grow. -/
theorem k102 {E w : World} {L I : List Chunk} {M : MDisk} {R : RS} {d : Nat} (hS : Sep E w (R.chunks M d ++ L)) (hR : RRep R M I) (n : Int) :
    Calls Pr 102 #[.pointer (some ⟨d, 0, none⟩), .int .i64 n] w fun e w' => ∃ R' : RS, e = .returned (.int .i64 (M.grow n).1) ∧ RRep R' (M.grow n).2 I ∧ Sep E w' (R'.chunks (M.grow n).2 d ++ L) := by
  refine call102 ?_
  unfold ir102
  unfold MDisk.grow
  refine brc_intro (fun h => ?_) (fun h => ?_)
  · have h : n < 0 := by simpa using h
    rw [if_pos h]
    exact ⟨R, rfl, hR, hS⟩
  · have h : ¬ n < 0 := by simpa using h
    rw [if_neg h]
    obtain ⟨w1, h1, hS1⟩ := Sep.store (cs := [slV R.sf, slV R.sn, slV R.sk, slV R.sc, .int .i64 (M.room : Int), .bool M.down, .bool M.doomed, .int .i64 R.lf]) (o := 4) (n := 1) (v := .int .i64 n) (t := 3) hS (by kernel_rfl) rfl (by simp) (by simp [Value.cells, Value.oneCell'])
    refine ⟨w1, h1, R, rfl, ⟨hR.files, hR.bytes, hR.own, hR.now, hR.kept, hR.chs, hR.left⟩, ?_⟩
    have hn : n = ((n.toNat : Nat) : Int) := by omega
    rw [hn] at hS1
    exact hS1

/-- A file. -/
theorem RRep.file {R : RS} {M : MDisk} {I : List Chunk} (h : RRep R M I) {i : Nat} (hi : i < M.files.length) : ∃ A r B, R.fs = A ++ r :: B ∧ A.length = i ∧ R.fs[i]? = some r ∧ M.fileAt i = r.2 ∧ r ∈ R.fs ∧ r.2 ∈ M.files := by
  have hi' : i < R.fs.length := by
    have := congrArg List.length h.files
    rw [List.length_map] at this
    omega
  obtain ⟨A, r, B, h1, h2, h3⟩ := split_at hi'
  refine ⟨A, r, B, h1, h2, h3, ?_, by rw [h1]; simp, by rw [← h.files, h1]; simp⟩
  unfold MDisk.fileAt
  rw [← h.files]
  simp [h3]

theorem RRep.turn {R : RS} {M : MDisk} {I : List Chunk} (hR : RRep R M I) {A B : List (SV × MFile)} {r : SV × MFile} (hfs : R.fs = A ++ r :: B) {s : SV} (g : MFile → MFile) (hr : RdB I s (g r.2).bytes) {C : List Chunk} (ho : Own 169 2 R.sf ((A ++ (s, g r.2) :: B).flatMap encF) C) :
    RRep { R with fs := A ++ (s, g r.2) :: B, CF := C } (M.setFile A.length g) I := by
  refine ⟨?_, fun x hx => ?_, ho, hR.now, hR.kept, hR.chs, hR.left⟩
  · have := hR.files
    rw [hfs] at this
    show (A ++ (s, g r.2) :: B).map (·.2) = M.files.modify A.length g
    rw [← this, List.map_append, List.map_append, List.map_cons, List.map_cons]
    have hl : A.length = (A.map (·.2)).length := by simp
    rw [hl, modify_mid]
  · have hx : x ∈ A ++ (s, g r.2) :: B := hx
    simp only [List.mem_append, List.mem_cons] at hx
    rcases hx with hx | rfl | hx
    · exact hR.bytes x (by rw [hfs]; simp [hx])
    · exact hr
    · exact hR.bytes x (by rw [hfs]; simp [hx])

theorem rChunkD_set (M : MDisk) (i : Nat) (g : MFile → MFile) (d : Nat) (sf sn sk sc : SV) (lf : Int) : rChunkD (M.setFile i g) d sf sn sk sc lf = rChunkD M d sf sn sk sc lf := rfl
theorem rfind_none {M : MDisk} {n : ByteArray} (h : M.ready.1 = 0) (hf : findN n M.ready.2.now = none) : M.find n = (2, none, M.ready.2) := by
  unfold MDisk.find
  rw [if_neg (by simpa using h), hf]
theorem rfind_some {M : MDisk} {n : ByteArray} {i : Nat} (h : M.ready.1 = 0) (hf : findN n M.ready.2.now = some i) : M.find n = (0, some i, M.ready.2) := by
  unfold MDisk.find
  rw [if_neg (by simpa using h), hf]
theorem findI_none {k : ByteArray} {nm : Names} (h : findN k nm = none) : findI k nm = -1 := by unfold findI; rw [h]
theorem findI_some {k : ByteArray} {nm : Names} {i : Nat} (h : findN k nm = some i) : findI k nm = (i : Int) := by unfold findI; rw [h]
theorem rfind_bad {M : MDisk} {n : ByteArray} (h : M.ready.1 ≠ 0) : M.find n = (40, none, M.ready.2) := by
  unfold MDisk.find
  rw [if_pos h, ready_40 h]

theorem small_now {M : MDisk} {n b : Nat} (hg : M.Good) (hm : M.Small n b) : M.now.length ≤ n := Nat.le_trans (now_len hg) hm.names

/-- Read. -/
theorem k64 {E w : World} {L I : List Chunk} {M : MDisk} {R : RS} {d n b : Nat} (hS : Sep E w (R.chunks M d ++ L)) (hR : RRep R M I) (hI : ∀ c ∈ I, c ∈ L) (hg : M.Good) (hm : M.Small n b) (hn : n ≤ 1000000) (hb : b ≤ 1000000000) (x : ByteArray) :
    Calls Pr 64 #[.pointer (some ⟨d, 0, none⟩), .string x] w fun e w' => ∃ (s : SV) (C : List Chunk) (R' : RS), e = .returned (.tuple #[.slice s.a s.len s.cap, .int .i64 (M.read x).1]) ∧ RdB C s (M.read x).2.1 ∧ RRep R' (M.read x).2.2 I ∧ Sep E w' (R'.chunks (M.read x).2.2 d ++ (C ++ L)) := by
  refine call64 ?_
  unfold ir64
  refine (k126 hm.left hS hR).mono ?_
  rintro _ w1 ⟨rfl, lf, hR1, hS1⟩
  generalize ({ R with lf := lf } : RS) = R1 at hR1 hS1
  have hnl := small_now hg.ready hm.ready
  refine ⟨_, rfl, ?_⟩
  unfold MDisk.read
  refine brc_intro (fun h => ?_) (fun h => ?_)
  · have h : M.ready.1 ≠ 0 := by simpa using h
    rw [rfind_bad h]
    exact ⟨SV.nil, [], R1, rfl, RdS.none _ _, hR1, hS1⟩
  · have h : M.ready.1 = 0 := by simpa using h
    refine ⟨R1.sn, hS1.load (b := d) (o := 1) List.mem_cons_self rfl (by kernel_rfl), ?_⟩
    refine (k105 hS1 hR1.now (fun c hc => List.mem_append_right _ (hI c hc)) (by omega) x).mono ?_
    rintro _ w2 ⟨rfl, rfl⟩
    refine ⟨_, rfl, ?_⟩
    cases hf : findN x M.ready.2.now with
    | none =>
      rw [rfind_none h hf, findI_none hf]
      exact brc_true (by simp) ⟨SV.nil, [], R1, rfl, RdS.none _ _, hR1, hS1⟩
    | some i =>
      rw [rfind_some h hf, findI_some hf]
      refine brc_false (by simp) ?_
      have hi : i < M.ready.2.files.length := hg.ready.nowB _ (mem_of_findN hf)
      obtain ⟨A, r, B, hfs, hA, hx, hfa, hr, hrm⟩ := hR1.file hi
      obtain ⟨s2, w3, C3, h3, ho3, hS3⟩ := Sep.litG0 (α := UInt8) (enc := fun b => [byteV b]) tiB hS1 (by kernel_rfl)
      have ho3 : Own 5 1 s2 (([] : List UInt8).map byteV) C3 := ho3
      refine ⟨s2, w3, h3, R1.sf, hS3.load (b := d) (o := 0) (List.mem_append_right _ List.mem_cons_self) rfl (by kernel_rfl), ?_⟩
      have hfl := RdG.size encF_ok hR1.own.rds
      have hil := (List.getElem?_eq_some_iff.1 hx).1
      obtain ⟨a, ha, _, hat⟩ := RdG.at_ encF_ok hR1.own.rds hx
      rw [ha]
      refine ⟨⟨by omega, by omega⟩, r.1, hat (j := 0) (v := slV r.1) (t := 26) rfl (by kernel_rfl) hS3 (fun c hc => by simp [RS.chunks, hc]), ?_⟩
      have hrb := hm.ready.each _ hrm
      obtain ⟨s5, w4, C4, h4, ho4, hS4⟩ := Sep.appB (ty := 26) hS3 ho3 (((hR1.bytes r hr).mono hI).mono (fun c hc => by simp [hc])) (by simp; omega)
      refine ⟨s5, w4, h4, s5, C4, R1, rfl, ?_, hR1, hS4.weak (by intro f; simp only [ms_append, ms_cons, ms_nil]; omega)⟩
      show RdB C4 s5 (M.ready.2.fileAt i).bytes
      rw [hfa]
      simpa using ho4.rds

/-- Names. -/
theorem k101 {E w : World} {L I : List Chunk} {M : MDisk} {R : RS} {d n b : Nat} (hS : Sep E w (R.chunks M d ++ L)) (hR : RRep R M I) (hI : ∀ c ∈ I, c ∈ L) (hg : M.Good) (hm : M.Small n b) (hn : n ≤ 1000000) :
    Calls Pr 101 #[.pointer (some ⟨d, 0, none⟩)] w fun e w' => ∃ (s : SV) (C : List Chunk) (R' : RS), e = .returned (.tuple #[.slice s.a s.len s.cap, .int .i64 M.names.1]) ∧ RdS C 1 s (M.names.2.1.flatMap encK) ∧ RRep R' M.names.2.2 I ∧ Sep E w' (R'.chunks M.names.2.2 d ++ (C ++ L)) := by
  refine call101 ?_
  unfold ir101
  refine (k126 hm.left hS hR).mono ?_
  rintro _ w1 ⟨rfl, lf, hR1, hS1⟩
  generalize ({ R with lf := lf } : RS) = R1 at hR1 hS1
  have hnl := small_now hg.ready hm.ready
  refine ⟨_, rfl, ?_⟩
  unfold MDisk.names
  refine brc_intro (fun h => ?_) (fun h => ?_)
  · have h : M.ready.1 ≠ 0 := by simpa using h
    rw [if_pos h, ready_40 h]
    exact ⟨SV.nil, [], R1, rfl, RdS.none _ _, hR1, hS1⟩
  · have h : M.ready.1 = 0 := by simpa using h
    rw [if_neg (by simpa using h)]
    generalize M.ready.2 = M1 at *
    have hsz := RdG.size encN_ok hR1.now
    refine ⟨fun k σ w2 => ∃ (j : Nat) (C G : List Chunk), j ≤ M1.now.length ∧ k = M1.now.length - j ∧ σ.1 = (j : Int) ∧ Own 9 1 σ.2.1 (((M1.now.take j).map (·.1)).flatMap encK) C ∧ Sep E w2 (C ++ (G ++ (R1.chunks M1 d ++ L))), M1.now.length, ⟨0, [], [], Nat.zero_le _, rfl, rfl, Own.nil _ _, hS1⟩, ?_⟩
    rintro k ⟨jj, s', u⟩ w2 ⟨j, C, G, hj, rfl, hjj, ho, hS2⟩ _
    dsimp only at hjj ho ⊢
    subst hjj
    have md : R1.chunks M1 d ++ L = rChunkD M1 d R1.sf R1.sn R1.sk R1.sc R1.lf :: (R1.CF ++ L) := rfl
    have mem : rChunkD M1 d R1.sf R1.sn R1.sk R1.sc R1.lf ∈ C ++ (G ++ (R1.chunks M1 d ++ L)) := by rw [md]; simp
    refine ⟨R1.sn, hS2.load (b := d) (o := 1) mem rfl (by kernel_rfl), brc_intro (fun h => ?_) (fun h => ?_)⟩
    · have h : j < M1.now.length := by simp at h; omega
      refine ⟨R1.sn, hS2.load (b := d) (o := 1) mem rfl (by kernel_rfl), ?_⟩
      have hx : M1.now[j]? = some M1.now[j] := List.getElem?_eq_getElem h
      generalize M1.now[j] = x at hx
      obtain ⟨a, ha, _, hat⟩ := RdG.at_ encN_ok hR1.now hx
      rw [ha]
      refine ⟨⟨by omega, by omega⟩, x.1, hat (j := 0) (v := .string x.1) (t := 9) rfl (by kernel_rfl) hS2 (fun c hc => by simp [hI c hc]), ?_⟩
      obtain ⟨s2, w3, h3, s3, w4, C', G', h4, ho4, hS4⟩ := Sep.pushG encK_ok ti78 (x := x.1) (v := .string x.1) (ty := 78) hS2 ho (by kernel_rfl) (by simp; omega) (by simp; unfold maxLen; omega)
      refine ⟨s2, w3, h3, s3, w4, h4, M1.now.length - (j + 1), by omega, j + 1, C', G' ++ G, by omega, rfl, by rw [w64 (by omega) (by omega)]; rfl, ?_, hS4.weak (by intro f; simp only [ms_append, ms_cons, ms_nil]; omega)⟩
      rw [take_at hx, List.map_append]
      exact ho4
    · have h : j = M1.now.length := by simp at h; omega
      subst h
      rw [List.take_length] at ho
      exact ⟨s', C ++ G, R1, rfl, ho.rds.left G, hR1, hS2.weak (by intro f; simp only [ms_append, ms_cons, ms_nil]; omega)⟩

/-- Sync. -/
theorem k97 {E w : World} {L I : List Chunk} {M : MDisk} {R : RS} {d n b : Nat} (hS : Sep E w (R.chunks M d ++ L)) (hR : RRep R M I) (hI : ∀ c ∈ I, c ∈ L) (hg : M.Good) (hm : M.Small n b) (hn : n ≤ 1000000) (x : ByteArray) :
    Calls Pr 97 #[.pointer (some ⟨d, 0, none⟩), .string x] w fun e w' => ∃ R' : RS, e = .returned (.int .i64 (M.sync x).1) ∧ RRep R' (M.sync x).2 I ∧ Sep E w' (R'.chunks (M.sync x).2 d ++ L) := by
  refine call97 ?_
  unfold ir97
  refine (k126 hm.left hS hR).mono ?_
  rintro _ w1 ⟨rfl, lf, hR1, hS1⟩
  generalize ({ R with lf := lf } : RS) = R1 at hR1 hS1
  have hnl := small_now hg.ready hm.ready
  refine ⟨_, rfl, ?_⟩
  unfold MDisk.sync
  refine brc_intro (fun h => ?_) (fun h => ?_)
  · have h : M.ready.1 ≠ 0 := by simpa using h
    rw [rfind_bad h]
    exact ⟨R1, rfl, hR1, hS1⟩
  · have h : M.ready.1 = 0 := by simpa using h
    refine ⟨R1.sn, hS1.load (b := d) (o := 1) List.mem_cons_self rfl (by kernel_rfl), ?_⟩
    refine (k105 hS1 hR1.now (fun c hc => List.mem_append_right _ (hI c hc)) (by omega) x).mono ?_
    rintro _ w2 ⟨rfl, rfl⟩
    refine ⟨_, rfl, ?_⟩
    cases hf : findN x M.ready.2.now with
    | none =>
      rw [rfind_none h hf, findI_none hf]
      exact brc_true (by simp) ⟨R1, rfl, hR1, hS1⟩
    | some i =>
      rw [rfind_some h hf, findI_some hf]
      refine brc_false (by simp) ?_
      have hi : i < M.ready.2.files.length := hg.ready.nowB _ (mem_of_findN hf)
      obtain ⟨A, r, B, hfs, hA, hx, hfa, hr, hrm⟩ := hR1.file hi
      have hfl := RdG.size encF_ok hR1.own.rds
      have hil := (List.getElem?_eq_some_iff.1 hx).1
      obtain ⟨a, ha, _, hat⟩ := RdG.at_ encF_ok hR1.own.rds hx
      let F := R1.chunks M.ready.2 d ++ L
      refine ⟨fun w => Sep E w F, hS1.drew, R1.sf, fun w hw => hw.load (b := d) (o := 0) List.mem_cons_self rfl (by kernel_rfl), R1.sf, fun w hw => hw.load (b := d) (o := 0) List.mem_cons_self rfl (by kernel_rfl), ?_⟩
      rw [ha]
      refine ⟨⟨by omega, by omega⟩, r.1, fun w hw => hat (j := 0) (v := slV r.1) (t := 26) rfl (by kernel_rfl) hw (fun c hc => by simp [F, RS.chunks, hc]), ⟨by omega, by omega⟩, ?_⟩
      have hS2 : Sep E (World.drew w2) (R1.CF ++ (rChunkD M.ready.2 d R1.sf R1.sn R1.sk R1.sc R1.lf :: L)) := hS1.drew.weak (by intro f; simp only [RS.chunks, ms_append, ms_cons, ms_nil]; omega)
      have hfl2 := encF_ok.flat R1.fs
      obtain ⟨a', ha', w3, C3, h3, ho3, hS3⟩ := Sep.storeOwn (j := i * 2 + 1) (m := 1) (v := .int .i64 ((r.1.len : Nat) : Int)) (t := 3) hS2 hR1.own (by omega) (by omega) (by kernel_rfl) rfl (by simp [Value.cells, Value.oneCell'])
      rw [ha] at ha'
      rw [← Option.some.inj ha'] at h3
      refine ⟨w3, by rw [addA]; exact h3, fun _ => True, trivial, ?_⟩
      have hsz := (hR1.bytes r hr).size
      have ho3' : Own 169 2 R1.sf ((A ++ (r.1, (fun f : MFile => (⟨f.bytes, f.bytes.length⟩ : MFile)) r.2) :: B).flatMap encF) C3 := by
        rw [hfs, ← hA, spl_enc encF_ok A B r (r.1, ⟨r.2.bytes, r.2.bytes.length⟩) (by simp [Value.cells]) (by rw [hsz]; rfl)] at ho3
        exact ho3
      refine ⟨_, rfl, hA ▸ hR1.turn hfs _ (hR1.bytes r hr) ho3', ?_⟩
      exact hS3.weak (by intro f; simp only [RS.chunks, ms_append, ms_cons, ms_nil, rChunkD_set]; omega)

end Go.Proofs.Ytonjaaljnjjjcaa

/- The reference's disk: contracts of what turns names; Clone. Conditions: as each lemma says. -/
set_option linter.unusedVariables false
set_option linter.unusedSimpArgs false
namespace Go.Proofs.Ytonjaaljnjjjcaa
open Go Go.RowKit

theorem small_ch {M : MDisk} {n b : Nat} (hm : M.Small n b) : M.changes.length ≤ n := by
  have := hm.names
  omega

/-- Create. -/
theorem k96 {E w : World} {L I : List Chunk} {M : MDisk} {R : RS} {d n b : Nat} (hS : Sep E w (R.chunks M d ++ L)) (hR : RRep R M I) (hI : ∀ c ∈ I, c ∈ L) (hg : M.Good) (hm : M.Small n b) (hn : n ≤ 1000000) (x : ByteArray) :
    Calls Pr 96 #[.pointer (some ⟨d, 0, none⟩), .string x] w fun e w' => ∃ (R' : RS) (C : List Chunk), e = .returned (.int .i64 (M.create x).1) ∧ RRep R' (M.create x).2 (C ++ I) ∧ Sep E w' (R'.chunks (M.create x).2 d ++ (C ++ L)) := by
  refine call96 ?_
  unfold ir96
  refine (k126 hm.left hS hR).mono ?_
  rintro _ w1 ⟨rfl, lf, hR1, hS1⟩
  generalize ({ R with lf := lf } : RS) = R1 at hR1 hS1
  have hnl := small_now hg.ready hm.ready
  have hcl := small_ch hm.ready
  refine ⟨_, rfl, ?_⟩
  unfold MDisk.create
  refine brc_intro (fun h => ?_) (fun h => ?_)
  · have h : M.ready.1 ≠ 0 := by simpa using h
    rw [if_pos h, ← ready_40 h]
    exact ⟨R1, [], rfl, hR1, hS1⟩
  have h : M.ready.1 = 0 := by simpa using h
  rw [if_neg (by simpa using h)]
  refine (k141 w1 x).mono ?_
  rintro _ _ ⟨rfl, rfl⟩
  refine ⟨_, rfl, brc_intro (fun h2 => ?_) (fun h2 => ?_)⟩
  · have h2 : MDisk.right x = false := by simpa using h2
    rw [if_pos h2]
    exact ⟨R1, [], rfl, hR1, hS1⟩
  have h2 : MDisk.right x = true := by simpa using h2
  rw [if_neg (by simp [h2])]
  refine ⟨R1.sn, hS1.load (b := d) (o := 1) List.mem_cons_self rfl (by kernel_rfl), ?_⟩
  refine (k105 hS1 hR1.now (fun c hc => List.mem_append_right _ (hI c hc)) (by omega) x).mono ?_
  rintro _ w2 ⟨rfl, rfl⟩
  refine ⟨_, rfl, ?_⟩
  cases hf : findN x M.ready.2.now with
  | some i =>
    rw [findI_some hf]
    exact brc_true (by simp) ⟨R1, [], rfl, hR1, hS1⟩
  | none =>
    rw [findI_none hf]
    refine brc_false (by simp) ?_
    rw [if_neg (by simp)]
    obtain ⟨s2, w3, C3, h3, ho3, hS3⟩ := Sep.litG0 (α := SV × MFile) (enc := encF) ti155 hS1 (by kernel_rfl)
    refine ⟨s2, w3, h3, R1.sf, hS3.load (b := d) (o := 0) (List.mem_append_right _ List.mem_cons_self) rfl (by kernel_rfl), ?_⟩
    have hfl := congrArg List.length hR1.files
    rw [List.length_map] at hfl
    have hfn := hm.ready.files
    obtain ⟨s4, w4, C4, h4, ho4, hS4⟩ := Sep.appG (ys := R1.fs) (ty := 155) encF_ok ti155 hS3 ho3 (hR1.own.rds.mono fun c hc => by simp [RS.chunks, hc]) (by simp; omega) (by simp; unfold maxLen; omega)
    refine ⟨s4, w4, h4, ?_⟩
    obtain ⟨s5, w5, h5, s6, w6, C6, G6, h6, ho6, hS6⟩ := Sep.pushG encF_ok ti155 (x := (SV.nil, (⟨[], 0⟩ : MFile))) (v := .agg #[.slice none 0 0, .int .i64 0]) (ty := 155) hS4 ho4 (by kernel_rfl) (by simp; omega) (by simp; unfold maxLen; omega)
    refine ⟨s5, w5, h5, s6, w6, h6, ?_⟩
    have hS6' : Sep E w6 (rChunkD M.ready.2 d R1.sf R1.sn R1.sk R1.sc R1.lf :: (C6 ++ ((R1.CF ++ G6) ++ L))) := hS6.weak (by intro f; simp only [RS.chunks, ms_append, ms_cons, ms_nil]; omega)
    obtain ⟨w7, h7, hS7⟩ := Sep.store (cs := [slV R1.sf, slV R1.sn, slV R1.sk, slV R1.sc, .int .i64 (M.ready.2.room : Int), .bool M.ready.2.down, .bool M.ready.2.doomed, .int .i64 R1.lf]) (o := 0) (n := 1) (v := slV s6) (t := 155) hS6' (by kernel_rfl) rfl (by simp) (by simp [Value.cells, Value.oneCell'])
    refine ⟨w7, h7, ?_⟩
    let R2 : RS := { R1 with sf := s6, CF := C6, fs := R1.fs ++ [(SV.nil, (⟨[], 0⟩ : MFile))] }
    let M2 : MDisk := { M.ready.2 with files := M.ready.2.files ++ [MFile.mk [] 0] }
    have hS7 : Sep E w7 (R2.chunks M2 d ++ ((R1.CF ++ G6) ++ L)) := hS7
    refine ⟨s6, hS7.load (b := d) (o := 0) List.mem_cons_self rfl (by kernel_rfl), ?_⟩
    have hR2 : RRep R2 M2 I := by
      refine ⟨by show (R1.fs ++ [(SV.nil, (⟨[], 0⟩ : MFile))]).map (·.2) = M.ready.2.files ++ [MFile.mk [] 0]; rw [List.map_append, hR1.files]; rfl, fun r hr => ?_, ?_, hR1.now, hR1.kept, hR1.chs, hR1.left⟩
      · rcases List.mem_append.1 hr with hr | hr
        · exact hR1.bytes r hr
        · rw [List.mem_singleton] at hr
          subst hr
          exact RdS.none I 1
      · rw [List.nil_append] at ho6
        exact ho6
    have hsl := RdG.size encF_ok ho6.rds
    have h6l : s6.len = R1.fs.length + 1 := by simpa using hsl
    have hidx : IntKind.wrap .i64 (((s6.len : Nat) : Int) - 1) = ((M.ready.2.files.length : Nat) : Int) := by
      rw [h6l, w64 (by omega) (by omega), hfl]
      omega
    rw [hidx]
    have hne := MDisk.right_ne h2
    have hk := k142 (c := ⟨noName, x, M.ready.2.files.length⟩) (fi := ((M.ready.2.files.length : Nat) : Int)) hS7 hR2 (fun c hc => List.mem_append_right _ (hI c hc)) (by show M.ready.2.now.length ≤ _; omega) (by show M.ready.2.changes.length ≤ _; omega) hg.ready.emptyN (.inl ⟨rfl, hne⟩) (by simp)
    refine Calls.mono (R := _) hk ?_
    rintro _ w8 ⟨R', C8, rfl, hR8, hS8⟩
    have hS9 : Sep E w8 (R'.chunks (M2.chg ⟨noName, x, M.ready.2.files.length⟩) d ++ ((C8 ++ (R1.CF ++ G6)) ++ L)) := hS8.weak (by intro f; simp only [ms_append, ms_cons, ms_nil]; omega)
    refine ⟨rfl, R', C8 ++ (R1.CF ++ G6), rfl, hR8.mono fun c hc => ?_, hS9⟩
    simp only [List.mem_append] at hc ⊢
    rcases hc with hc | hc
    · exact .inl (.inl hc)
    · exact .inr hc

/-- Rename. -/
theorem k98 {E w : World} {L I : List Chunk} {M : MDisk} {R : RS} {d n b : Nat} (hS : Sep E w (R.chunks M d ++ L)) (hR : RRep R M I) (hI : ∀ c ∈ I, c ∈ L) (hg : M.Good) (hm : M.Small n b) (hn : n ≤ 1000000) (x y : ByteArray) :
    Calls Pr 98 #[.pointer (some ⟨d, 0, none⟩), .string x, .string y] w fun e w' => ∃ (R' : RS) (C : List Chunk), e = .returned (.int .i64 (M.rename x y).1) ∧ RRep R' (M.rename x y).2 (C ++ I) ∧ Sep E w' (R'.chunks (M.rename x y).2 d ++ (C ++ L)) := by
  refine call98 ?_
  unfold ir98
  refine (k126 hm.left hS hR).mono ?_
  rintro _ w1 ⟨rfl, lf, hR1, hS1⟩
  generalize ({ R with lf := lf } : RS) = R1 at hR1 hS1
  have hnl := small_now hg.ready hm.ready
  have hcl := small_ch hm.ready
  refine ⟨_, rfl, ?_⟩
  unfold MDisk.rename
  refine brc_intro (fun h => ?_) (fun h => ?_)
  · have h : M.ready.1 ≠ 0 := by simpa using h
    rw [rfind_bad h]
    exact ⟨R1, [], rfl, hR1, hS1⟩
  have h : M.ready.1 = 0 := by simpa using h
  refine ⟨R1.sn, hS1.load (b := d) (o := 1) List.mem_cons_self rfl (by kernel_rfl), ?_⟩
  refine (k105 hS1 hR1.now (fun c hc => List.mem_append_right _ (hI c hc)) (by omega) x).mono ?_
  rintro _ w2 ⟨rfl, rfl⟩
  refine ⟨_, rfl, ?_⟩
  cases hf : findN x M.ready.2.now with
  | none =>
    rw [rfind_none h hf, findI_none hf]
    exact brc_true (by simp) ⟨R1, [], rfl, hR1, hS1⟩
  | some i =>
    rw [rfind_some h hf, findI_some hf]
    refine brc_false (by simp) ?_
    dsimp only
    refine (k141 w2 y).mono ?_
    rintro _ _ ⟨rfl, rfl⟩
    refine ⟨_, rfl, brc_intro (fun h2 => ?_) (fun h2 => ?_)⟩
    · have h2 : MDisk.right y = false := by simpa using h2
      rw [if_pos h2]
      exact ⟨R1, [], rfl, hR1, hS1⟩
    have h2 : MDisk.right y = true := by simpa using h2
    rw [if_neg (by simp [h2])]
    have hne := hg.ready.emptyN _ (mem_of_findN hf)
    have hne : x ≠ noName := hne
    have hk := k142 (c := ⟨x, y, i⟩) (fi := 0) hS1 hR1 (fun c hc => hI c hc) (by omega) (by omega) hg.ready.emptyN (.inr ⟨hne, i, hf, fun _ => rfl⟩) (by show (if x = noName then _ else _) = _; rw [if_neg hne])
    refine Calls.mono (R := _) hk ?_
    rintro _ w8 ⟨R', C8, rfl, hR8, hS8⟩
    exact ⟨rfl, R', C8, rfl, hR8, hS8⟩

/-- Remove. -/
theorem k99 {E w : World} {L I : List Chunk} {M : MDisk} {R : RS} {d n b : Nat} (hS : Sep E w (R.chunks M d ++ L)) (hR : RRep R M I) (hI : ∀ c ∈ I, c ∈ L) (hg : M.Good) (hm : M.Small n b) (hn : n ≤ 1000000) (x : ByteArray) :
    Calls Pr 99 #[.pointer (some ⟨d, 0, none⟩), .string x] w fun e w' => ∃ (R' : RS) (C : List Chunk), e = .returned (.int .i64 (M.remove x).1) ∧ RRep R' (M.remove x).2 (C ++ I) ∧ Sep E w' (R'.chunks (M.remove x).2 d ++ (C ++ L)) := by
  refine call99 ?_
  unfold ir99
  refine (k126 hm.left hS hR).mono ?_
  rintro _ w1 ⟨rfl, lf, hR1, hS1⟩
  generalize ({ R with lf := lf } : RS) = R1 at hR1 hS1
  have hnl := small_now hg.ready hm.ready
  have hcl := small_ch hm.ready
  refine ⟨_, rfl, ?_⟩
  unfold MDisk.remove
  refine brc_intro (fun h => ?_) (fun h => ?_)
  · have h : M.ready.1 ≠ 0 := by simpa using h
    rw [rfind_bad h]
    exact ⟨R1, [], rfl, hR1, hS1⟩
  have h : M.ready.1 = 0 := by simpa using h
  refine ⟨R1.sn, hS1.load (b := d) (o := 1) List.mem_cons_self rfl (by kernel_rfl), ?_⟩
  refine (k105 hS1 hR1.now (fun c hc => List.mem_append_right _ (hI c hc)) (by omega) x).mono ?_
  rintro _ w2 ⟨rfl, rfl⟩
  refine ⟨_, rfl, ?_⟩
  cases hf : findN x M.ready.2.now with
  | none =>
    rw [rfind_none h hf, findI_none hf]
    exact brc_true (by simp) ⟨R1, [], rfl, hR1, hS1⟩
  | some i =>
    rw [rfind_some h hf, findI_some hf]
    refine brc_false (by simp) ?_
    dsimp only
    have hne : x ≠ noName := hg.ready.emptyN _ (mem_of_findN hf)
    have hk := k142 (c := ⟨x, noName, 0⟩) (fi := 0) hS1 hR1 (fun c hc => hI c hc) (by omega) (by omega) hg.ready.emptyN (.inr ⟨hne, i, hf, fun h => absurd rfl h⟩) (by show (if x = noName then _ else _) = _; rw [if_neg hne])
    refine Calls.mono (R := _) hk ?_
    rintro _ w8 ⟨R', C8, rfl, hR8, hS8⟩
    exact ⟨rfl, R', C8, rfl, hR8, hS8⟩

/-- SyncNames. -/
theorem k100 {E w : World} {L I : List Chunk} {M : MDisk} {R : RS} {d n b : Nat} (hS : Sep E w (R.chunks M d ++ L)) (hR : RRep R M I) (hI : ∀ c ∈ I, c ∈ L) (hg : M.Good) (hm : M.Small n b) (hn : n ≤ 1000000) :
    Calls Pr 100 #[.pointer (some ⟨d, 0, none⟩)] w fun e w' => ∃ (R' : RS) (C : List Chunk), e = .returned (.int .i64 M.syncNames.1) ∧ RRep R' M.syncNames.2 (C ++ I) ∧ Sep E w' (R'.chunks M.syncNames.2 d ++ (C ++ L)) := by
  refine call100 ?_
  unfold ir100
  refine (k126 hm.left hS hR).mono ?_
  rintro _ w1 ⟨rfl, lf, hR1, hS1⟩
  generalize ({ R with lf := lf } : RS) = R1 at hR1 hS1
  have hnl := small_now hg.ready hm.ready
  refine ⟨_, rfl, ?_⟩
  unfold MDisk.syncNames
  refine brc_intro (fun h => ?_) (fun h => ?_)
  · have h : M.ready.1 ≠ 0 := by simpa using h
    rw [if_pos h, ← ready_40 h]
    exact ⟨R1, [], rfl, hR1, hS1⟩
  have h : M.ready.1 = 0 := by simpa using h
  rw [if_neg (by simpa using h)]
  obtain ⟨s2, w3, C3, h3, ho3, hS3⟩ := Sep.litG0 (α := ByteArray × Nat) (enc := encN) ti156 hS1 (by kernel_rfl)
  refine ⟨s2, w3, h3, R1.sn, hS3.load (b := d) (o := 1) (List.mem_append_right _ List.mem_cons_self) rfl (by kernel_rfl), ?_⟩
  obtain ⟨s4, w4, C4, h4, ho4, hS4⟩ := Sep.appG (ys := M.ready.2.now) (ty := 156) encN_ok ti156 hS3 ho3 (hR1.now.mono fun c hc => by simp [hI c hc]) (by simp; omega) (by simp; unfold maxLen; omega)
  refine ⟨s4, w4, h4, ?_⟩
  have hS4' : Sep E w4 (rChunkD M.ready.2 d R1.sf R1.sn R1.sk R1.sc R1.lf :: (R1.CF ++ (C4 ++ L))) := hS4.weak (by intro f; simp only [RS.chunks, ms_append, ms_cons, ms_nil]; omega)
  obtain ⟨w5, h5, hS5⟩ := Sep.store (cs := [slV R1.sf, slV R1.sn, slV R1.sk, slV R1.sc, .int .i64 (M.ready.2.room : Int), .bool M.ready.2.down, .bool M.ready.2.doomed, .int .i64 R1.lf]) (o := 2) (n := 1) (v := slV s4) (t := 156) hS4' (by kernel_rfl) rfl (by simp) (by simp [Value.cells, Value.oneCell'])
  refine ⟨w5, h5, ?_⟩
  obtain ⟨w6, h6, hS6⟩ := Sep.store (cs := [slV R1.sf, slV R1.sn, slV s4, slV R1.sc, .int .i64 (M.ready.2.room : Int), .bool M.ready.2.down, .bool M.ready.2.doomed, .int .i64 R1.lf]) (o := 3) (n := 1) (v := .slice none 0 0) (t := 157) hS5 (by kernel_rfl) rfl (by simp) (by simp [Value.cells, Value.oneCell'])
  refine ⟨w6, h6, { R1 with sk := s4, sc := SV.nil }, C4, rfl, ⟨hR1.files, fun r hr => (hR1.bytes r hr).right _, hR1.own, hR1.now.right _, ?_, RdS.none _ _, hR1.left⟩, hS6⟩
  have := ho4.rds
  rw [List.nil_append] at this
  exact this.left I

/-- Clone. -/
theorem k44 {E w : World} {L I : List Chunk} {M : MDisk} {R : RS} {d n b : Nat} (hS : Sep E w (R.chunks M d ++ L)) (hR : RRep R M I) (hm : M.Small n b) (hn : n ≤ 1000000) :
    Calls Pr 44 #[.pointer (some ⟨d, 0, none⟩)] w fun e w' => ∃ (R' : RS) (x : Nat) (C : List Chunk), e = .returned (.pointer (some ⟨x, 0, none⟩)) ∧ RRep R' M I ∧ Sep E w' (R'.chunks M x ++ (R.chunks M d ++ (C ++ L))) := by
  refine call44 ?_
  unfold ir44
  refine ⟨R.sf, R.sn, R.sk, R.sc, (M.room : Int), M.down, M.doomed, R.lf, hS.loadS (b := d) (o := 0) (n := 8) List.mem_cons_self (by kernel_rfl) (by kernel_rfl) rfl (by simp), ?_⟩
  obtain ⟨x, w1, h1, hS1⟩ := hS.alloc (t := 159) z159
  refine ⟨_, w1, h1, ?_⟩
  obtain ⟨w2, h2, hS2⟩ := Sep.store (cs := [.slice none 0 0, .slice none 0 0, .slice none 0 0, .slice none 0 0, .int .i64 0, .bool false, .bool false, .int .i64 0]) (o := 0) (n := 8) (v := .agg #[slV R.sf, slV R.sn, slV R.sk, slV R.sc, .int .i64 (M.room : Int), .bool M.down, .bool M.doomed, .int .i64 R.lf]) (t := 159) hS1 (by kernel_rfl) rfl (by simp) (by simp [Value.cells, Value.oneCell'])
  refine ⟨w2, h2, ?_⟩
  have hS2 : Sep E w2 (rChunkD M x R.sf R.sn R.sk R.sc R.lf :: (R.chunks M d ++ L)) := hS2
  obtain ⟨s3, w3, C3, h3, ho3, hS3⟩ := Sep.litG0 (α := SV × MFile) (enc := encF) ti155 hS2 (by kernel_rfl)
  have md : rChunkD M d R.sf R.sn R.sk R.sc R.lf ∈ C3 ++ (rChunkD M x R.sf R.sn R.sk R.sc R.lf :: (R.chunks M d ++ L)) := List.mem_append_right _ (List.mem_cons_of_mem _ List.mem_cons_self)
  refine ⟨s3, w3, h3, R.sf, hS3.load (b := d) (o := 0) md rfl (by kernel_rfl), ?_⟩
  have hfl := congrArg List.length hR.files
  rw [List.length_map] at hfl
  have hfn := hm.files
  obtain ⟨s4, w4, C4, h4, ho4, hS4⟩ := Sep.appG (ys := R.fs) (ty := 155) encF_ok ti155 hS3 ho3 (hR.own.rds.mono fun c hc => by simp [RS.chunks, hc]) (by simp; omega) (by simp; unfold maxLen; omega)
  refine ⟨s4, w4, h4, ?_⟩
  have hS4' : Sep E w4 (rChunkD M x R.sf R.sn R.sk R.sc R.lf :: (C4 ++ (R.chunks M d ++ ([] ++ L)))) := hS4.weak (by intro f; simp only [ms_append, ms_cons, ms_nil]; omega)
  obtain ⟨w5, h5, hS5⟩ := Sep.store (cs := [slV R.sf, slV R.sn, slV R.sk, slV R.sc, .int .i64 (M.room : Int), .bool M.down, .bool M.doomed, .int .i64 R.lf]) (o := 0) (n := 1) (v := slV s4) (t := 155) hS4' (by kernel_rfl) rfl (by simp) (by simp [Value.cells, Value.oneCell'])
  exact ⟨w5, h5, { R with sf := s4, CF := C4 }, x, [], rfl, ⟨hR.files, hR.bytes, by simpa using ho4, hR.now, hR.kept, hR.chs, hR.left⟩, hS5⟩

end Go.Proofs.Ytonjaaljnjjjcaa

/- The reference's disk: how many bytes there are; Append. Conditions: as each lemma says. -/
set_option linter.unusedVariables false
set_option linter.unusedSimpArgs false
namespace Go.Proofs.Ytonjaaljnjjjcaa
open Go Go.RowKit

/-! ### A row of truths -/
def pb (p : Nat → Bool) (n : Nat) : List Value := (List.range n).map fun i => .bool (p i)
theorem pb_len (p : Nat → Bool) (n : Nat) : (pb p n).length = n := by simp [pb]
theorem pb_get {p : Nat → Bool} {n i : Nat} (h : i < n) : (pb p n)[i]? = some (.bool (p i)) := by simp [pb, h]
theorem pb_set {p q : Nat → Bool} {n i : Nat} (h : i < n) (hq : ∀ x, q x = (p x || decide (x = i))) : spl (pb p n) i [.bool true] = pb q n := by
  apply List.ext_getElem?
  intro j
  rw [spl_get _ _ _ (by rw [pb_len]; show i + 1 ≤ n; omega)]
  by_cases hj : j < n
  · rw [pb_get hj, pb_get hj, hq]
    by_cases h1 : j < i
    · rw [if_pos h1]
      have : ¬ j = i := by omega
      simp [this]
    · rw [if_neg h1]
      by_cases h2 : j = i
      · subst h2
        simp
      · rw [if_neg (by simp; omega)]
        simp [h2]
  · have h1 : ¬ j < i := by omega
    have h2 : ¬ j < i + 1 := by omega
    rw [if_neg h1, if_neg (by simpa using h2), List.getElem?_eq_none (by rw [pb_len]; omega), List.getElem?_eq_none (by rw [pb_len]; omega)]
theorem pb_congr {p q : Nat → Bool} {n : Nat} (h : ∀ x, p x = q x) : pb p n = pb q n := by
  have : p = q := funext h
  rw [this]
theorem ti161 : TI 161 4 1 1 (.bool false) := ⟨by kernel_rfl, by kernel_rfl, rfl, by decide⟩
theorem zerosL_b (n : Nat) : zerosL (.bool false) (n * 1) = pb (fun _ => false) n := by
  rw [Nat.mul_one]
  unfold zerosL pb
  apply List.map_congr_left
  intro i _
  simp [Value.cells, Nat.mod_one]

theorem fitsAll_at : ∀ {l : List MChange} {nm : Names} {j : Nat} {c : MChange}, FitsAll nm l → l[j]? = some c → Fits ((l.take j).foldl doN nm) c
  | [], _, _, _, _, h => by simp at h
  | x :: l, nm, 0, c, hf, h => by
    simp at h
    subst h
    exact hf.1
  | x :: l, nm, j + 1, c, hf, h => by
    have := fitsAll_at (l := l) hf.2 (j := j) (c := c) (by simpa using h)
    simpa using this

theorem usedTo_snoc (M : MDisk) (f : MFile) : ∀ (l : List MFile) (i : Nat), M.usedTo i (l ++ [f]) = M.usedTo i l + (if M.holds (i + l.length) then f.bytes.length else 0)
  | [], i => by simp [MDisk.usedTo]
  | x :: l, i => by
    rw [List.cons_append]
    unfold MDisk.usedTo
    rw [usedTo_snoc M f l (i + 1), List.length_cons]
    rw [show i + 1 + l.length = i + (l.length + 1) by omega]
    omega
theorem usedTo_le (M : MDisk) : ∀ (fs : List MFile) (i : Nat), M.usedTo i fs ≤ ms (fun f => f.bytes.length) fs
  | [], _ => Nat.le_refl _
  | f :: fs, i => by
    have := usedTo_le M fs (i + 1)
    unfold MDisk.usedTo
    rw [ms_cons]
    split <;> omega
theorem ms_take {α : Type} (f : α → Nat) (l : List α) (j : Nat) : ms f (l.take j) ≤ ms f l := by
  have : ms f l = ms f (l.take j) + ms f (l.drop j) := by rw [← ms_append, List.take_append_drop]
  omega

/-- Used. -/
theorem k41 {E w : World} {L I : List Chunk} {M : MDisk} {R : RS} {d n b : Nat} (hS : Sep E w (R.chunks M d ++ L)) (hR : RRep R M I) (hI : ∀ c ∈ I, c ∈ L) (hg : M.Good) (hm : M.Small n b) (hn : n ≤ 1000000) (hb : b ≤ 1000000000) :
    Calls Pr 41 #[.pointer (some ⟨d, 0, none⟩)] w fun e w' => ∃ C : List Chunk, e = .returned (.int .i64 ((M.used : Nat) : Int)) ∧ Sep E w' (C ++ (R.chunks M d ++ L)) := by
  refine call41 ?_
  unfold ir41
  let F := R.chunks M d ++ L
  have mF : rChunkD M d R.sf R.sn R.sk R.sc R.lf ∈ F := List.mem_append_left _ List.mem_cons_self
  refine ⟨R.sf, hS.load (b := d) (o := 0) mF rfl (by kernel_rfl), ?_⟩
  have hfl := congrArg List.length hR.files
  rw [List.length_map] at hfl
  have hfn := hm.files
  have hsf := RdG.size encF_ok hR.own.rds
  have hkn := hm.names
  obtain ⟨g, w1, h1, hS1⟩ := hS.makeSlice ti161 (n := R.sf.len) (by omega) (by omega)
  rw [zerosL_b, hsf, hfl] at hS1
  refine ⟨⟨some ⟨g, 0, none⟩, R.sf.len, R.sf.len⟩, w1, h1, R.sk, hS1.load (b := d) (o := 2) (List.mem_cons_of_mem _ mF) rfl (by kernel_rfl), ?_⟩
  rw [hsf, hfl]
  generalize hnf : M.files.length = nf at *
  let hs : SV := ⟨some ⟨g, 0, none⟩, nf, nf⟩
  have hsk := RdG.size encN_ok hR.kept
  have hsc := RdG.size encC_ok hR.chs
  have hIF : ∀ c ∈ I, c ∈ F := fun c hc => List.mem_append_right _ (hI c hc)
  refine ⟨fun k σ w2 => ∃ (j : Nat) (CB : List Chunk), j ≤ M.kept.length ∧ k = M.kept.length - j ∧ σ = ((j : Int), ()) ∧ Own 4 1 hs (pb (fun i => (M.kept.take j).any fun x => decide (x.2 = i)) nf) CB ∧ Sep E w2 (CB ++ F), M.kept.length, ⟨0, [_], Nat.zero_le _, rfl, rfl, Own.new (by rw [pb_len, Nat.mul_one]) (by unfold maxLen; omega), hS1⟩, ?_⟩
  rintro k σ w2 ⟨j, CB, hj, rfl, rfl, ho, hS2⟩ _
  dsimp only
  refine brc_intro (fun h => ?_) (fun h => ?_)
  · have h : j < M.kept.length := by simp at h; omega
    have hx : M.kept[j]? = some M.kept[j] := List.getElem?_eq_getElem h
    generalize M.kept[j] = x at hx
    have hxb : x.2 < nf := by rw [← hnf]; exact hg.keptB x (List.mem_of_getElem? hx)
    obtain ⟨a, ha, _, hat⟩ := RdG.at_ encN_ok hR.kept hx
    rw [ha]
    refine ⟨⟨by omega, by omega⟩, (x.2 : Int), hat (j := 1) (v := .int .i64 (x.2 : Int)) (t := 3) rfl (by kernel_rfl) hS2 (fun c hc => by simp [hIF c hc]), ⟨by omega, by show ((x.2 : Nat) : Int) < ((nf : Nat) : Int); omega⟩, ?_⟩
    obtain ⟨a', ha', w3, C3, h3, ho3, hS3⟩ := Sep.storeOwn (j := x.2) (m := 1) (v := .bool true) (t := 4) hS2 ho (by rw [pb_len]; omega) (by rw [pb_len]; omega) (by kernel_rfl) rfl (by simp [Value.cells, Value.oneCell'])
    rw [Nat.mul_one]
    refine ⟨w3, ?_, M.kept.length - (j + 1), by omega, j + 1, C3, by omega, rfl, by rw [w64 (by omega) (by omega)]; rfl, ?_, hS3⟩
    · have ha'' : some (⟨g, 0, none⟩ : Addr) = some a' := ha'
      rw [← Option.some.inj ha''] at h3
      exact h3
    · have hq : ∀ y, ((M.kept.take (j + 1)).any fun x => decide (x.2 = y)) = (((M.kept.take j).any fun x => decide (x.2 = y)) || decide (y = x.2)) := fun y => by
        rw [take_at hx, List.any_append]
        simp [eq_comm]
      have e : (Value.bool true).cells.toList = [.bool true] := rfl
      rw [e, pb_set hxb hq] at ho3
      exact ho3
  have h : j = M.kept.length := by simp at h; omega
  subst h
  rw [List.take_length] at ho
  -- the changes
  let P : Nat → Nat → Bool := fun j i => (M.kept.any fun x => decide (x.2 = i)) || ((M.changes.take j).any fun c => decide (c.new ≠ noName) && decide (c.file = i))
  refine ⟨fun k σ w3 => ∃ (j : Nat) (CB C : List Chunk), j ≤ M.changes.length ∧ k = M.changes.length - j ∧ σ.1 = (j : Int) ∧ RdS (C ++ I) 2 σ.2.1 (((M.changes.take j).foldl doN M.kept).flatMap encN) ∧ Own 4 1 hs (pb (P j) nf) CB ∧ Sep E w3 (CB ++ (C ++ F)), M.changes.length, ⟨0, CB, [], Nat.zero_le _, rfl, rfl, hR.kept, by
    have : pb (P 0) nf = pb (fun i => M.kept.any fun x => decide (x.2 = i)) nf := pb_congr fun x => by simp [P]
    rw [this]
    exact ho, hS2⟩, ?_⟩
  clear hS2 ho hS1 h1
  rintro k ⟨jj, sa, u⟩ w3 ⟨j, CB, C, hj, rfl, hjj, hr, ho, hS3⟩ _
  dsimp only at hjj hr ⊢
  subst hjj
  have mF3 : rChunkD M d R.sf R.sn R.sk R.sc R.lf ∈ CB ++ (C ++ F) := by simp [mF]
  refine ⟨R.sc, hS3.load (b := d) (o := 3) mF3 rfl (by kernel_rfl), brc_intro (fun h => ?_) (fun h => ?_)⟩
  · have h : j < M.changes.length := by simp at h; omega
    have hx : M.changes[j]? = some M.changes[j] := List.getElem?_eq_getElem h
    generalize M.changes[j] = c at hx
    have hcb : c.new ≠ noName → c.file < nf := by rw [← hnf]; exact hg.chB c (List.mem_of_getElem? hx)
    obtain ⟨a, ha, hat0, hat⟩ := RdG.at_ encC_ok hR.chs hx
    refine ⟨R.sc, hS3.load (b := d) (o := 3) mF3 rfl (by kernel_rfl), ?_⟩
    rw [ha]
    refine ⟨⟨by omega, by omega⟩, c.gone, c.new, (if c.gone = noName then (c.file : Int) else 0), hat0 (t := 166) (by kernel_rfl) (by kernel_rfl) hS3 (fun c hc => by simp [hIF c hc]), ?_⟩
    have hf := fitsAll_at hg.fits hx
    have hfold := foldl_len (M.changes.take j) M.kept
    have htl : (M.changes.take j).length ≤ M.changes.length := by rw [List.length_take]; omega
    have hne := foldl_noEmpty (M.changes.take j) hg.empty
    have htk : (M.changes.take (j + 1)).foldl doN M.kept = doN ((M.changes.take j).foldl doN M.kept) c := by rw [take_at hx, List.foldl_append]; rfl
    generalize hnm : (M.changes.take j).foldl doN M.kept = nm at *
    refine (k104 hS3 hr (fun c hc => by rcases List.mem_append.1 hc with hc | hc; · simp [hc]
                                        · simp [hIF c hc]) (by omega) hne hf).mono ?_
    rintro _ w4 ⟨s4, C4, G4, rfl, ho4, hS4⟩
    have mF4 : rChunkD M d R.sf R.sn R.sk R.sc R.lf ∈ C4 ++ (G4 ++ (CB ++ (C ++ F))) := by simp [mF]
    refine ⟨s4, rfl, R.sc, hS4.load (b := d) (o := 3) mF4 rfl (by kernel_rfl), ?_⟩
    rw [ha]
    refine ⟨⟨by omega, by omega⟩, c.new, hat (j := 1) (v := .string c.new) (t := 9) rfl (by kernel_rfl) hS4 (fun c hc => by simp [hIF c hc]), ?_⟩
    have hdl := doN_len nm c
    refine (k105 hS4 ho4.rds (fun c hc => by simp [hc]) (by omega) c.new).mono ?_
    rintro _ w5 ⟨rfl, rfl⟩
    refine ⟨_, rfl, ?_⟩
    have hq : ∀ y, P (j + 1) y = (P j y || (decide (c.new ≠ noName) && decide (y = c.file))) := fun y => by
      show ((M.kept.any fun x => decide (x.2 = y)) || ((M.changes.take (j + 1)).any fun c => decide (c.new ≠ noName) && decide (c.file = y))) = _
      rw [take_at hx, List.any_append, ← Bool.or_assoc]
      simp [eq_comm, P]
    by_cases hw : c.new = noName
    · have hfi : findI c.new (doN nm c) = -1 := findI_none (findN_none_of fun x hx e => doN_noEmpty hne c x hx (e.trans hw))
      rw [hfi]
      refine brc_false (by simp) ?_
      refine ⟨M.changes.length - (j + 1), by omega, j + 1, CB, C4 ++ (G4 ++ C), by omega, rfl, by rw [w64 (by omega) (by omega)]; rfl, ?_, ?_, hS4.weak (by intro f; simp only [ms_append, ms_cons, ms_nil]; omega)⟩
      · show RdS _ 2 s4 _
        rw [htk]
        exact ho4.rds.mono fun c hc => by simp [hc]
      · have : pb (P (j + 1)) nf = pb (P j) nf := pb_congr fun y => by rw [hq]; simp [hw]
        rw [this]
        exact ho
    · have hfi : findI c.new (doN nm c) = ((c.file : Nat) : Int) := findI_some (by rw [findN_do]; simp [hw])
      rw [hfi]
      refine brc_true (by simp) ?_
      have hcf := hcb hw
      refine ⟨⟨by omega, by show ((c.file : Nat) : Int) < ((nf : Nat) : Int); omega⟩, ?_⟩
      have hS4' : Sep E w5 (CB ++ (C4 ++ (G4 ++ C) ++ F)) := hS4.weak (by intro f; simp only [ms_append, ms_cons, ms_nil]; omega)
      obtain ⟨a', ha', w6, C6, h6, ho6, hS6⟩ := Sep.storeOwn (j := c.file) (m := 1) (v := .bool true) (t := 4) hS4' ho (by rw [pb_len]; omega) (by rw [pb_len]; omega) (by kernel_rfl) rfl (by simp [Value.cells, Value.oneCell'])
      rw [Int.toNat_natCast, Nat.mul_one]
      refine ⟨w6, ?_, M.changes.length - (j + 1), by omega, j + 1, C6, C4 ++ (G4 ++ C), by omega, rfl, by rw [w64 (by omega) (by omega)]; rfl, ?_, ?_, hS6⟩
      · have ha'' : some (⟨g, 0, none⟩ : Addr) = some a' := ha'
        rw [← Option.some.inj ha''] at h6
        exact h6
      · show RdS _ 2 s4 _
        rw [htk]
        exact ho4.rds.mono fun c hc => by simp [hc]
      · have e : (Value.bool true).cells.toList = [.bool true] := rfl
        rw [e, pb_set hcf (q := P (j + 1)) (fun y => by rw [hq]; simp [hw])] at ho6
        exact ho6
  have h : j = M.changes.length := by simp at h; omega
  subst h
  have hP : ∀ i, P M.changes.length i = M.holds i := fun i => by
    show (_ || _) = _
    rw [List.take_length]
    rfl
  -- the sum
  refine ⟨fun k σ w4 => ∃ j : Nat, j ≤ nf ∧ k = nf - j ∧ σ = ((j : Int), ((M.usedTo 0 (M.files.take j) : Nat) : Int), ()) ∧ w4 = w3, nf, ⟨0, Nat.zero_le _, rfl, rfl, rfl⟩, ?_⟩
  rintro k σ w4 ⟨j, hj, rfl, rfl, rfl⟩ _
  dsimp only
  refine brc_intro (fun h => ?_) (fun h => ?_)
  · have h : j < nf := by
      have h : ((j : Nat) : Int) < ((nf : Nat) : Int) := by simpa using h
      omega
    refine ⟨⟨by omega, by show ((j : Nat) : Int) < ((nf : Nat) : Int); omega⟩, ?_⟩
    obtain ⟨a, ha, hat⟩ := ho.rds.idx (pb_get h) hS3 (fun c hc => by simp [hc]) (t := 4) (by kernel_rfl)
    have ha : some (⟨g, 0, none⟩ : Addr) = some a := ha
    rw [← Option.some.inj ha] at hat
    rw [hP] at hat
    refine ⟨M.holds j, hat, ?_⟩
    have hx : M.files[j]? = some M.files[j] := List.getElem?_eq_getElem (by omega)
    have hst : M.usedTo 0 (M.files.take (j + 1)) = M.usedTo 0 (M.files.take j) + (if M.holds j then M.files[j].bytes.length else 0) := by
      rw [take_at hx, usedTo_snoc, List.length_take, Nat.zero_add, Nat.min_eq_left (by omega)]
    refine brc_intro (fun hh => ?_) (fun hh => ?_)
    · obtain ⟨A, r, B, hfs, hA, hrx, hfa, hr', hrm⟩ := hR.file (i := j) (by omega)
      have hrf : M.files[j] = r.2 := by
        have : M.fileAt j = M.files[j] := by
          unfold MDisk.fileAt
          rw [List.getD_eq_getElem?_getD, hx]
          rfl
        rw [← this, hfa]
      rw [hrf, if_pos hh] at hst
      refine ⟨R.sf, hS3.load (b := d) (o := 0) mF3 rfl (by kernel_rfl), ?_⟩
      obtain ⟨a2, ha2, _, hat2⟩ := RdG.at_ encF_ok hR.own.rds hrx
      rw [ha2]
      have hrs := (hR.bytes r hr').size
      have hu := usedTo_le M (M.files.take (j + 1)) 0
      have hu2 := ms_take (fun f : MFile => f.bytes.length) M.files (j + 1)
      have hu3 := hm.total
      have hu4 : n * b ≤ 1000000 * 1000000000 := Nat.mul_le_mul hn hb
      have hu5 : ms (fun f : MFile => f.bytes.length) M.files = M.total := rfl
      refine ⟨⟨by omega, by omega⟩, r.1, hat2 (j := 0) (v := slV r.1) (t := 26) rfl (by kernel_rfl) hS3 (fun c hc => by simp [F, RS.chunks, hc]), nf - (j + 1), by omega, j + 1, by omega, rfl, ?_, rfl⟩
      rw [hrs, w64 (by omega) (by omega), w64 (by omega) (by omega), hst]
      rfl
    · have hh : M.holds j = false := by simpa using hh
      rw [hh] at hst
      refine ⟨nf - (j + 1), by omega, j + 1, by omega, rfl, ?_, rfl⟩
      rw [w64 (by omega) (by omega), hst]
      rfl
  · have h : j = nf := by
      have h : ¬ ((j : Nat) : Int) < ((nf : Nat) : Int) := by simpa using h
      omega
    subst h
    refine ⟨CB ++ C, ?_, hS3.weak (by intro f; simp only [F, ms_append, ms_cons, ms_nil]; omega)⟩
    rw [← hnf, List.take_length]
    rfl

theorem z169 : (Pr.info? 169).bind (·.zero) = some (.agg #[.slice none 0 0, .int .i64 0]) := by kernel_rfl

/-- Append. -/
theorem k103 {E w : World} {L I : List Chunk} {M : MDisk} {R : RS} {d n b : Nat} (hS : Sep E w (R.chunks M d ++ L)) (hR : RRep R M I) (hI : ∀ c ∈ I, c ∈ L) (hg : M.Good) (hm : M.Small n b) (hn : n ≤ 1000000) (hb : b ≤ 1000000000) (x : ByteArray) {sx : SV} {bx : List UInt8} (hx : RdB L sx bx) (hbx : bx.length ≤ 1000000000) :
    Calls Pr 103 #[.pointer (some ⟨d, 0, none⟩), .string x, .slice sx.a sx.len sx.cap] w fun e w' => ∃ (R' : RS) (C : List Chunk), e = .returned (.int .i64 (M.append x bx).1) ∧ RRep R' (M.append x bx).2 (C ++ I) ∧ Sep E w' (R'.chunks (M.append x bx).2 d ++ (C ++ L)) := by
  refine call103 ?_
  unfold ir103
  refine (k126 hm.left hS hR).mono ?_
  rintro _ w1 ⟨rfl, lf, hR1, hS1⟩
  generalize ({ R with lf := lf } : RS) = R1 at hR1 hS1
  have hnl := small_now hg.ready hm.ready
  refine ⟨_, rfl, ?_⟩
  unfold MDisk.append
  refine brc_intro (fun h => ?_) (fun h => ?_)
  · have h : M.ready.1 ≠ 0 := by simpa using h
    rw [rfind_bad h]
    exact ⟨R1, [], rfl, hR1, hS1⟩
  have h : M.ready.1 = 0 := by simpa using h
  refine ⟨R1.sn, hS1.load (b := d) (o := 1) List.mem_cons_self rfl (by kernel_rfl), ?_⟩
  refine (k105 hS1 hR1.now (fun c hc => List.mem_append_right _ (hI c hc)) (by omega) x).mono ?_
  rintro _ w2 ⟨rfl, rfl⟩
  refine ⟨_, rfl, ?_⟩
  cases hf : findN x M.ready.2.now with
  | none =>
    rw [rfind_none h hf, findI_none hf]
    exact brc_true (by simp) ⟨R1, [], rfl, hR1, hS1⟩
  | some i =>
    rw [rfind_some h hf, findI_some hf]
    refine brc_false (by simp) ?_
    dsimp only
    have hi : i < M.ready.2.files.length := hg.ready.nowB _ (mem_of_findN hf)
    have hgr := hg.ready
    have hmr := hm.ready
    generalize M.ready.2 = M1 at *
    let F := R1.chunks M1 d ++ L
    have mF : rChunkD M1 d R1.sf R1.sn R1.sk R1.sc R1.lf ∈ F := List.mem_append_left _ List.mem_cons_self
    refine ⟨fun w => Sep E w F, hS1.drew, (M1.room : Int), fun w hw => Sep.load (L := F) hw (b := d) (o := 4) mF rfl (by kernel_rfl), ?_⟩
    refine (k41 hS1.drew hR1 hI hgr hmr hn hb).mono ?_
    rintro _ w3 ⟨C3, rfl, hS3⟩
    have hS3 : Sep E w3 (C3 ++ F) := hS3
    refine ⟨_, rfl, fun w => Sep E w F, fun w hw => hw, hS3.weak (by intro f; simp only [ms_append, ms_cons, ms_nil]; omega), ?_⟩
    have hxs := hx.size
    have hul := used_le M1
    have hu3 := hmr.total
    have hu4 : n * b ≤ 1000000 * 1000000000 := Nat.mul_le_mul hn hb
    rw [w64 (by omega) (by omega)]
    refine brc_intro (fun h5 => ?_) (fun h5 => ?_)
    · have h5 : M1.used + bx.length > M1.room := by simp at h5; omega
      rw [if_pos h5]
      exact ⟨R1, C3, rfl, hR1.right C3, hS3.weak (by intro f; simp only [F, ms_append, ms_cons, ms_nil]; omega)⟩
    have h5 : ¬ M1.used + bx.length > M1.room := by simp at h5; omega
    rw [if_neg h5]
    obtain ⟨A, r, B, hfs, hA, hrx, hfa, hr, hrm⟩ := hR1.file hi
    have hfl := RdG.size encF_ok hR1.own.rds
    have hil := (List.getElem?_eq_some_iff.1 hrx).1
    obtain ⟨a, ha, hat0, hat⟩ := RdG.at_ encF_ok hR1.own.rds hrx
    have mF3 : rChunkD M1 d R1.sf R1.sn R1.sk R1.sc R1.lf ∈ C3 ++ F := List.mem_append_right _ mF
    have mCF : ∀ {Y : List Chunk}, (∀ c ∈ F, c ∈ Y) → ∀ c ∈ R1.CF, c ∈ Y := fun hY c hc => hY c (by simp [F, RS.chunks, hc])
    refine ⟨R1.sf, hS3.load (b := d) (o := 0) mF3 rfl (by kernel_rfl), ?_⟩
    rw [ha]
    refine ⟨⟨by omega, by omega⟩, r.1, (r.2.kept : Int), hat0 (t := 169) (by kernel_rfl) (by kernel_rfl) hS3 (mCF fun c hc => by simp [hc]), ?_⟩
    obtain ⟨q, w4, h4, hS4⟩ := hS3.alloc (t := 169) z169
    refine ⟨_, w4, h4, ?_⟩
    obtain ⟨w5, h5', hS5⟩ := Sep.store (cs := [.slice none 0 0, .int .i64 0]) (o := 0) (n := 2) (v := .agg #[slV r.1, .int .i64 (r.2.kept : Int)]) (t := 169) hS4 (by kernel_rfl) rfl (by simp) (by simp [Value.cells, Value.oneCell'])
    let Q : SV → Chunk := fun s => (q, .cells #[slV s, .int .i64 (r.2.kept : Int)] 169 (0, 0))
    have hS5 : Sep E w5 (Q r.1 :: (C3 ++ F)) := hS5
    refine ⟨w5, h5', ?_⟩
    obtain ⟨s6, w6, C6, h6, ho6, hS6⟩ := Sep.litG0 (α := UInt8) (enc := fun b => [byteV b]) tiB hS5 (by kernel_rfl)
    have ho6 : Own 5 1 s6 (([] : List UInt8).map byteV) C6 := ho6
    refine ⟨s6, w6, h6, r.1, hS6.load (b := q) (o := 0) (List.mem_append_right _ List.mem_cons_self) rfl (by kernel_rfl), ?_⟩
    have hrb := hmr.each _ hrm
    obtain ⟨s7, w7, C7, h7, ho7, hS7⟩ := Sep.appB (ty := 26) hS6 ho6 ((hR1.bytes r hr).mono fun c hc => by simp [F, hI c hc]) (by simp; omega)
    refine ⟨s7, w7, h7, ?_⟩
    obtain ⟨s8, w8, C8, h8, ho8, hS8⟩ := Sep.appB (ty := 26) hS7 ho7 (hx.mono fun c hc => by simp [F, hc]) (by simp; omega)
    refine ⟨s8, w8, h8, ?_⟩
    rw [List.nil_append] at ho8
    have hS8' : Sep E w8 (Q r.1 :: (C8 ++ (C3 ++ F))) := hS8.weak (by intro f; simp only [ms_append, ms_cons, ms_nil]; omega)
    obtain ⟨w9, h9, hS9⟩ := Sep.store (cs := [slV r.1, .int .i64 (r.2.kept : Int)]) (o := 0) (n := 1) (v := slV s8) (t := 26) hS8' (by kernel_rfl) rfl (by simp) (by simp [Value.cells, Value.oneCell'])
    have hS9 : Sep E w9 (Q s8 :: (C8 ++ (C3 ++ F))) := hS9
    refine ⟨w9, h9, fun w => Sep E w (Q s8 :: (C8 ++ (C3 ++ F))), hS9.drew, R1.sf, fun w hw => hw.load (b := d) (o := 0) (by simp only [List.mem_cons, List.mem_append]; exact .inr (.inr (.inr mF))) rfl (by kernel_rfl), s8, (r.2.kept : Int), fun w hw => hw.loadS (b := q) (o := 0) (n := 2) List.mem_cons_self (by kernel_rfl) (by kernel_rfl) rfl (by simp), ⟨by omega, by omega⟩, ?_⟩
    rw [ha]
    have hS10 : Sep E (World.drew w9) (R1.CF ++ (rChunkD M1 d R1.sf R1.sn R1.sk R1.sc R1.lf :: ((Q s8 :: (C8 ++ C3)) ++ L))) := hS9.drew.weak (by intro f; simp only [F, RS.chunks, ms_append, ms_cons, ms_nil]; omega)
    have hfl2 := encF_ok.flat R1.fs
    obtain ⟨a', ha', w11, C11, h11, ho11, hS11⟩ := Sep.storeOwn (j := i * 2 + 0) (m := 2) (v := .agg #[slV s8, .int .i64 (r.2.kept : Int)]) (t := 169) hS10 hR1.own (by omega) (by omega) (by kernel_rfl) rfl (by simp [Value.cells, Value.oneCell'])
    rw [ha] at ha'
    rw [← Option.some.inj ha'] at h11
    refine ⟨w11, h11, fun _ => True, trivial, ?_⟩
    have ho11' : Own 169 2 R1.sf ((A ++ (s8, (fun f : MFile => (⟨f.bytes ++ bx, f.kept⟩ : MFile)) r.2) :: B).flatMap encF) C11 := by
      rw [hfs, ← hA, spl_enc encF_ok A B r (s8, ⟨r.2.bytes ++ bx, r.2.kept⟩) (by simp [Value.cells]) rfl] at ho11
      exact ho11
    refine ⟨_, Q s8 :: (C8 ++ C3), rfl, (hA ▸ (hR1.right (Q s8 :: (C8 ++ C3))).turn hfs (s := s8) (fun f : MFile => (⟨f.bytes ++ bx, f.kept⟩ : MFile)) (ho8.rds.mono fun c hc => by simp [hc]) ho11'), ?_⟩
    exact hS11.weak (by intro f; simp only [RS.chunks, ms_append, ms_cons, ms_nil, rChunkD_set]; omega)

end Go.Proofs.Ytonjaaljnjjjcaa

/- The reference's disk: Crash. Conditions: as each lemma says. -/
set_option linter.unusedVariables false
set_option linter.unusedSimpArgs false
namespace Go.Proofs.Ytonjaaljnjjjcaa
open Go Go.RowKit

/-- left. -/
theorem k111 {E w : World} {L : List Chunk} (hS : Sep E w L) (n0 : Int) {sb : SV} {ns : List Int} (hr : RdS L 1 sb (ns.map intV)) (i most : Nat) (hb : most ≤ 1000000000000) :
    Calls Pr 111 #[.agg #[.int .i64 n0, .slice sb.a sb.len sb.cap], .int .i64 (i : Int), .int .i64 (most : Int)] w fun e w' => ∃ C : List Chunk, e = .returned (.int .i64 ((MDisk.leftOf ns i most : Nat) : Int)) ∧ Sep E w' (C ++ L) := by
  refine call111 ?_
  unfold ir111
  obtain ⟨a1, w1, h1, hS1⟩ := hS.newVar (t := 63) (v := .agg #[intV n0, slV sb])
  let wC : Chunk := (a1, .cells #[intV n0, slV sb] 63 (0, 0))
  have hS1 : Sep E w1 (wC :: L) := hS1
  have hsn := hr.len1
  rw [List.length_map] at hsn
  refine ⟨_, w1, h1, sb, hS1.load (b := a1) (o := 1) List.mem_cons_self rfl (by kernel_rfl), brc_intro (fun hp => ?_) (fun hp => ?_)⟩
  · have hp : ns = [] := List.eq_nil_of_length_eq_zero (by simp at hp; omega)
    subst hp
    exact ⟨[wC], rfl, hS1⟩
  · have hp : 0 < ns.length := by simp at hp; omega
    have hmod := Nat.mod_lt i hp
    refine ⟨fun w => Sep E w (wC :: L), hS1.drew, sb, fun w hw => hw.load (b := a1) (o := 1) List.mem_cons_self rfl (by kernel_rfl), sb, fun w hw => hw.load (b := a1) (o := 1) List.mem_cons_self rfl (by kernel_rfl), by omega, ?_⟩
    have htm : Int.tmod (i : Int) ((sb.len : Nat) : Int) = ((i % ns.length : Nat) : Int) := by rw [hsn]; exact (Int.ofNat_tmod i ns.length).symm
    rw [htm]
    refine ⟨⟨by omega, by omega⟩, ?_⟩
    have hni : ns[i % ns.length]? = some ns[i % ns.length] := List.getElem?_eq_getElem hmod
    obtain ⟨a8, ha8, hat8⟩ := hr.idxU (i := i % ns.length) (v := intV ns[i % ns.length]) (by rw [List.getElem?_map, hni]; rfl) (t := 3) (by kernel_rfl)
    rw [ha8]
    refine ⟨ns[i % ns.length], fun w hw => hat8 hw (fun c hc => List.mem_cons_of_mem _ hc), [wC], ?_, hS1.drew⟩
    rw [leftOf_at hp hmod]
    congr 2
    generalize ns[i % ns.length] = v
    split <;> split at * <;> omega

theorem numbered_at : ∀ (nm : Names) (k i : Nat) (x : ByteArray × Nat), nm[i]? = some x → (MDisk.numbered k nm)[i]? = some (x.1, k + i)
  | [], k, i, x, h => by simp at h
  | y :: nm, k, 0, x, h => by
    simp at h
    subst h
    rfl
  | y :: nm, k, i + 1, x, h => by
    have := numbered_at nm (k + 1) i x (by simpa using h)
    simp only [MDisk.numbered, List.getElem?_cons_succ, this]
    rw [show k + 1 + i = k + (i + 1) by omega]

theorem take_all {α : Type} {l : List α} {j : Nat} (h : l.length ≤ j) : l.take j = l := List.take_of_length_le h

/-- Crash. -/
theorem k46 {E w : World} {L I : List Chunk} {M : MDisk} {R : RS} {d n b : Nat} (hS : Sep E w (R.chunks M d ++ L)) (hR : RRep R M I) (hI : ∀ c ∈ I, c ∈ L) (hg : M.Good) (hm : M.Small n b) (hn : n ≤ 1000000) (hb : b ≤ 1000000000)
    (n0 : Int) {sb : SV} {ns : List Int} (hr : RdS L 1 sb (ns.map intV)) :
    Calls Pr 46 #[.pointer (some ⟨d, 0, none⟩), .agg #[.int .i64 n0, .slice sb.a sb.len sb.cap]] w fun e w' => ∃ (R' : RS) (C : List Chunk), e = .returned (.int .i64 0) ∧ RRep R' (M.crash n0 ns) (C ++ I) ∧ Sep E w' (R'.chunks (M.crash n0 ns) d ++ (C ++ L)) := by
  refine call46 ?_
  unfold ir46
  obtain ⟨a1, w1, h1, hS1⟩ := hS.newVar (t := 63) (v := .agg #[intV n0, slV sb])
  let wC : Chunk := (a1, .cells #[intV n0, slV sb] 63 (0, 0))
  let F : List Chunk := wC :: (R.chunks M d ++ L)
  have hS1 : Sep E w1 F := hS1
  have md : rChunkD M d R.sf R.sn R.sk R.sc R.lf ∈ F := List.mem_cons_of_mem _ (List.mem_append_left _ List.mem_cons_self)
  have mw : wC ∈ F := List.mem_cons_self
  have hIF : ∀ c ∈ I, c ∈ F := fun c hc => by simp [F, hI c hc]
  refine ⟨_, w1, h1, R.sk, hS1.load (b := d) (o := 2) md rfl (by kernel_rfl), ?_⟩
  have hsc := RdG.size encC_ok hR.chs
  have hnm := hm.names
  have hfl := congrArg List.length hR.files
  rw [List.length_map] at hfl
  -- the changes
  refine ⟨fun k σ w2 => ∃ (j : Nat) (C : List Chunk), j ≤ M.changes.length ∧ (j = 0 ∨ (j : Int) ≤ n0) ∧ k = M.changes.length - j ∧ σ.1 = (j : Int) ∧ RdS (C ++ I) 2 σ.2.1 (((M.changes.take j).foldl doN M.kept).flatMap encN) ∧ Sep E w2 (C ++ F), M.changes.length, ⟨0, [], Nat.zero_le _, .inl rfl, rfl, rfl, hR.kept, hS1⟩, ?_⟩
  clear hS1 h1
  rintro k ⟨jj, sa, u⟩ w2 ⟨j, C, hj, hj0, rfl, hjj, hra, hS2⟩ _
  dsimp only at hjj hra ⊢
  subst hjj
  have hIC : ∀ c ∈ C ++ I, c ∈ C ++ F := fun c hc => (List.mem_append.1 hc).elim (fun h => List.mem_append_left _ h) (fun h => List.mem_append_right _ (hIF c h))
  have mdC : rChunkD M d R.sf R.sn R.sk R.sc R.lf ∈ C ++ F := List.mem_append_right _ md
  have hfold := foldl_len (M.changes.take j) M.kept
  have htl : (M.changes.take j).length ≤ M.changes.length := by rw [List.length_take]; omega
  refine ⟨R.sc, hS2.load (b := d) (o := 3) mdC rfl (by kernel_rfl), brc_intro (fun h => ⟨n0, hS2.load (b := a1) (o := 0) (List.mem_append_right _ mw) rfl (by kernel_rfl), brc_intro (fun h2 => ?_) (fun h2 => ?_)⟩) (fun h => ?_)⟩
  · have h : j < M.changes.length := by simp at h; omega
    have h2 : (j : Int) < n0 := by simpa using h2
    have hx : M.changes[j]? = some M.changes[j] := List.getElem?_eq_getElem h
    generalize M.changes[j] = c at hx
    obtain ⟨a, ha, hat0, _⟩ := RdG.at_ encC_ok hR.chs hx
    refine ⟨R.sc, hS2.load (b := d) (o := 3) mdC rfl (by kernel_rfl), ?_⟩
    rw [ha]
    refine ⟨⟨by omega, by omega⟩, c.gone, c.new, (if c.gone = noName then (c.file : Int) else 0), hat0 (t := 166) (by kernel_rfl) (by kernel_rfl) hS2 (fun c hc => by simp [hIF c hc]), ?_⟩
    have hf := fitsAll_at hg.fits hx
    have hne := foldl_noEmpty (M.changes.take j) hg.empty
    have htk : (M.changes.take (j + 1)).foldl doN M.kept = doN ((M.changes.take j).foldl doN M.kept) c := by rw [take_at hx, List.foldl_append]; rfl
    refine (k104 hS2 hra hIC (by omega) hne hf).mono ?_
    rintro _ w4 ⟨s4, C4, G4, rfl, ho4, hS4⟩
    refine ⟨s4, rfl, M.changes.length - (j + 1), by omega, j + 1, C4 ++ (G4 ++ C), by omega, .inr (by omega), rfl, by rw [w64 (by omega) (by omega)]; rfl, ?_, hS4.weak (by intro f; simp only [ms_append, ms_cons, ms_nil]; omega)⟩
    show RdS _ 2 s4 _
    rw [htk]
    exact ho4.rds.mono fun c hc => by simp [hc]
  all_goals
    have hdone : ((M.changes.take j).foldl doN M.kept) = M.left_ n0 := by
      have h3 : M.changes.take j = M.changes.take n0.toNat := by
        first
          | (have h2 : ¬ (j : Int) < n0 := by simpa using h2
             have : j = n0.toNat := by omega
             rw [this])
          | (have h : ¬ (j : Int) < ((R.sc.len : Nat) : Int) := by simpa using h
             rw [take_all (by omega)]
             rcases hj0 with hj0 | hj0
             · rw [List.eq_nil_of_length_eq_zero (by omega : M.changes.length = 0)]
               simp
             · rw [take_all (by omega)])
      rw [h3]
      rfl
    rw [hdone] at hra hfold
    have hlB := hg.leftB n0
    have hcr : M.crash n0 ns = ⟨M.crashed ns 0 (M.left_ n0), MDisk.numbered 0 (M.left_ n0), MDisk.numbered 0 (M.left_ n0), [], M.room, false, false, 0⟩ := rfl
    rw [hcr]
    generalize M.left_ n0 = nm at *
    have hsa := RdG.size encN_ok hra
    refine ⟨fun k σ w3 => ∃ (i : Nat) (fl : List (SV × MFile)) (CF CN G : List Chunk), i ≤ nm.length ∧ k = nm.length - i ∧ σ.1 = (i : Int) ∧ fl.map (·.2) = (M.crashed ns 0 nm).take i ∧ (∀ r ∈ fl, RdB G r.1 r.2.bytes) ∧ Own 169 2 σ.2.1 (fl.flatMap encF) CF ∧ Own 163 2 σ.2.2.1 (((MDisk.numbered 0 nm).take i).flatMap encN) CN ∧ Sep E w3 (CF ++ (CN ++ (G ++ (C ++ F)))), nm.length, ⟨0, [], [], [], [], Nat.zero_le _, rfl, rfl, rfl, (fun r hr => by cases hr), Own.nil _ _, Own.nil _ _, hS2⟩, ?_⟩
    rintro k ⟨ii, sfl, snm, u⟩ w3 ⟨i, fl, CF, CN, G, hi, rfl, hii, hfl2, hfb, hof, hon, hS3⟩ _
    dsimp only at hii hof hon ⊢
    subst hii
    let Y : List Chunk := CF ++ (CN ++ (G ++ (C ++ F)))
    have mY : ∀ c ∈ C ++ F, c ∈ Y := fun c hc => List.mem_append_right _ (List.mem_append_right _ (List.mem_append_right _ hc))
    have hS3 : Sep E w3 Y := hS3
    have hflen : fl.length = i := by
      have := congrArg List.length hfl2
      rw [List.length_map, List.length_take, MDisk.crashed_len] at this
      omega
    have hnlen : ((MDisk.numbered 0 nm).take i).length = i := by rw [List.length_take, MDisk.numbered_len]; omega
    refine brc_intro (fun h4 => ?_) (fun h4 => ?_)
    · have h4 : i < nm.length := by simp at h4; omega
      have hx : nm[i]? = some nm[i] := List.getElem?_eq_getElem h4
      generalize nm[i] = x at hx
      have hcx := crashed_get M ns nm 0 i x hx
      rw [Nat.zero_add] at hcx
      have hnx := numbered_at nm 0 i x hx
      rw [Nat.zero_add] at hnx
      have hxb : x.2 < M.files.length := hlB x (List.mem_of_getElem? hx)
      obtain ⟨A, r, B, hfs, hA, hrx, hfa, hrr, hrm⟩ := hR.file hxb
      rw [hfa] at hcx
      have hkf := hg.keptF _ hrm
      have hbf := hm.each _ hrm
      have hrb := hR.bytes r hrr
      have hrl := hrb.size
      have hrc := hrb.cap
      have hsf := RdG.size encF_ok hR.own.rds
      have hril := (List.getElem?_eq_some_iff.1 hrx).1
      obtain ⟨a7, ha7, _, hat7⟩ := RdG.at_ encN_ok hra hx
      obtain ⟨a8, ha8, hat8, _⟩ := RdG.at_ encF_ok hR.own.rds hrx
      have mCF : ∀ c ∈ R.CF, c ∈ Y := fun c hc => mY c (by simp [F, RS.chunks, hc])
      refine ⟨fun w => Sep E w Y, hS3.drew, R.sf, fun w hw => Sep.load (L := Y) hw (b := d) (o := 0) (mY _ mdC) rfl (by kernel_rfl), ⟨by omega, by omega⟩, ?_⟩
      rw [ha7]
      refine ⟨(x.2 : Int), fun w hw => hat7 (j := 1) (v := .int .i64 (x.2 : Int)) (t := 3) rfl (by kernel_rfl) hw (fun c hc => mY _ (hIC c hc)), ⟨by omega, by omega⟩, ?_⟩
      rw [ha8]
      refine ⟨r.1, (r.2.kept : Int), fun w hw => hat8 (t := 169) (by kernel_rfl) (by kernel_rfl) hw mCF, ?_⟩
      obtain ⟨q, w4, h5, hS4⟩ := hS3.drew.alloc (t := 169) z169
      refine ⟨_, w4, h5, fun w => Sep E w Y, fun w hw => hw, hS4.weak (by intro f; simp only [ms_append, ms_cons, ms_nil]; omega), ?_⟩
      obtain ⟨w5, h6, hS5⟩ := Sep.store (cs := [.slice none 0 0, .int .i64 0]) (o := 0) (n := 2) (v := .agg #[slV r.1, .int .i64 (r.2.kept : Int)]) (t := 169) hS4 (by kernel_rfl) rfl (by simp) (by simp [Value.cells, Value.oneCell'])
      let Q : Chunk := (q, .cells #[slV r.1, .int .i64 (r.2.kept : Int)] 169 (0, 0))
      have hS5 : Sep E w5 (Q :: Y) := hS5
      refine ⟨w5, h6, fun _ => True, trivial, fun w => Sep E w (Q :: Y), hS5.drew, ?_⟩
      have mw5 : wC ∈ Q :: Y := List.mem_cons_of_mem _ (mY _ (List.mem_append_right _ mw))
      refine ⟨(r.2.kept : Int), fun w hw => hw.load (b := q) (o := 1) List.mem_cons_self rfl (by kernel_rfl), n0, sb, fun w hw => hw.loadS (b := a1) (o := 0) (n := 2) mw5 (by kernel_rfl) (by kernel_rfl) rfl (by simp), r.1, fun w hw => hw.load (b := q) (o := 0) List.mem_cons_self rfl (by kernel_rfl), (r.2.kept : Int), fun w hw => hw.load (b := q) (o := 1) List.mem_cons_self rfl (by kernel_rfl), ?_⟩
      have hmost : IntKind.wrap .i64 (((r.1.len : Nat) : Int) - (r.2.kept : Int)) = ((r.2.bytes.length - r.2.kept : Nat) : Int) := by rw [w64 (by omega) (by omega)]; omega
      rw [hmost]
      refine (k111 hS5.drew n0 (hr.mono fun c hc => List.mem_cons_of_mem _ (mY _ (by simp [F, hc]))) i (r.2.bytes.length - r.2.kept) (by omega)).mono ?_
      rintro _ w6 ⟨C6, rfl, hS6⟩
      have hlo := MDisk.leftOf_le ns i (r.2.bytes.length - r.2.kept)
      generalize MDisk.leftOf ns i (r.2.bytes.length - r.2.kept) = lo at *
      refine ⟨_, rfl, fun w => Sep E w (Q :: Y), fun w hw => hw, hS6.weak (by intro f; simp only [ms_append, ms_cons, ms_nil]; omega), ?_⟩
      have hwn : IntKind.wrap .i64 ((r.2.kept : Int) + ((lo : Nat) : Int)) = ((r.2.kept + lo : Nat) : Int) := by rw [w64 (by omega) (by omega)]; omega
      rw [hwn]
      obtain ⟨s7, w7, C7, h7, ho7, hS7⟩ := Sep.litG0 (α := UInt8) (enc := fun b => [byteV b]) tiB hS6 (by kernel_rfl)
      have ho7 : Own 5 1 s7 (([] : List UInt8).map byteV) C7 := ho7
      refine ⟨s7, w7, h7, r.1, hS7.load (b := q) (o := 0) (List.mem_append_right _ (List.mem_append_right _ List.mem_cons_self)) rfl (by kernel_rfl), ⟨by omega, by omega⟩, ?_⟩
      rw [Int.toNat_natCast]
      have hcut := hrb.cut (l := 0) (h := r.2.kept + lo) (m := r.1.cap) (by omega) (by omega) (by omega) (Nat.le_refl _)
      rw [List.drop_zero] at hcut
      obtain ⟨s8, w8, C8, h8, ho8, hS8⟩ := Sep.appB (ty := 26) (x := ⟨cutAt r.1.a 0 r.1.cap 1, (r.2.kept + lo) - 0, r.1.cap - 0⟩) hS7 ho7 (hcut.mono fun c hc => by
        have := mY _ (hIC c (List.mem_append_right _ hc))
        simp [this]) (by simp; omega)
      rw [List.nil_append] at ho8
      refine ⟨s8, w8, h8, ?_⟩
      have hS8' : Sep E w8 (CF ++ (C8 ++ (C6 ++ (Q :: (CN ++ (G ++ (C ++ F))))))) := hS8.weak (by intro f; simp only [Y, ms_append, ms_cons, ms_nil]; omega)
      let r' : SV × MFile := (s8, ⟨r.2.bytes.take (r.2.kept + lo), r.2.kept + lo⟩)
      obtain ⟨s9, w9, h9, s10, w10, C10, G10, h10, ho10, hS10⟩ := Sep.pushG encF_ok ti155 (x := r') (v := .agg #[slV s8, .int .i64 ((r.2.kept + lo : Nat) : Int)]) (ty := 155) hS8' hof (by
        show bsV Pr 155 1 [(0, .agg #[slV s8, .int .i64 ((r.2.kept + lo : Nat) : Int)])] = some [slV s8, .int .i64 ((r.2.kept + lo : Nat) : Int)]
        generalize ((r.2.kept + lo : Nat) : Int) = z
        kernel_rfl) (by omega) (by unfold maxLen; omega)
      refine ⟨s9, w9, h9, s10, w10, h10, ⟨by omega, by omega⟩, x.1, hat7 (j := 0) (v := .string x.1) (t := 9) rfl (by kernel_rfl) hS10 (fun c hc => by
        have := hIC c hc
        simp only [List.mem_append, List.mem_cons] at this ⊢
        rcases this with h | h
        · exact .inr (.inr (.inr (.inr (.inr (.inr (.inr (.inl h)))))))
        · exact .inr (.inr (.inr (.inr (.inr (.inr (.inr (.inr h)))))))), ?_⟩
      have hS10' : Sep E w10 (CN ++ (C10 ++ (G10 ++ (C8 ++ (C6 ++ (Q :: (G ++ (C ++ F)))))))) := hS10.weak (by intro f; simp only [ms_append, ms_cons, ms_nil]; omega)
      obtain ⟨s11, w11, h11, s12, w12, C12, G12, h12, ho12, hS12⟩ := Sep.pushG encN_ok ti156 (x := (x.1, i)) (v := .agg #[.string x.1, .int .i64 (i : Int)]) (ty := 156) hS10' hon (bsN (x.1, i)) (by omega) (by unfold maxLen; omega)
      refine ⟨s11, w11, h11, s12, w12, h12, nm.length - (i + 1), by omega, i + 1, fl ++ [r'], C10, C12, G12 ++ (G10 ++ (C8 ++ (C6 ++ (Q :: G)))), by omega, rfl, by rw [w64 (by omega) (by omega)]; rfl, ?_, fun y hy => ?_, ho10, ?_, hS12.weak (by intro f; simp only [ms_append, ms_cons, ms_nil]; omega)⟩
      · rw [List.map_append, hfl2, take_at hcx]
        rfl
      · rcases List.mem_append.1 hy with hy | hy
        · exact (hfb y hy).mono fun c hc => by simp [hc]
        · rw [List.mem_singleton] at hy
          subst hy
          exact ho8.rds.mono fun c hc => by simp [hc]
      · rw [take_at hnx]
        exact ho12
    · have h4 : i = nm.length := by simp at h4; omega
      subst h4
      rw [take_all (by rw [MDisk.crashed_len]; exact Nat.le_refl _)] at hfl2
      rw [take_all (by rw [MDisk.numbered_len]; exact Nat.le_refl _)] at hon
      have hS4 : Sep E w3 (rChunkD M d R.sf R.sn R.sk R.sc R.lf :: (CF ++ (CN ++ (G ++ (C ++ (wC :: (R.CF ++ L))))))) := hS3.weak (by intro f; simp only [Y, F, RS.chunks, ms_append, ms_cons, ms_nil]; omega)
      obtain ⟨w5, h5, hS5⟩ := Sep.store (cs := [slV R.sf, slV R.sn, slV R.sk, slV R.sc, .int .i64 (M.room : Int), .bool M.down, .bool M.doomed, .int .i64 R.lf]) (o := 0) (n := 1) (v := slV sfl) (t := 155) hS4 (by kernel_rfl) rfl (by simp) (by simp [Value.cells, Value.oneCell'])
      refine ⟨w5, h5, ?_⟩
      obtain ⟨w6, h6, hS6⟩ := Sep.store (cs := [slV sfl, slV R.sn, slV R.sk, slV R.sc, .int .i64 (M.room : Int), .bool M.down, .bool M.doomed, .int .i64 R.lf]) (o := 1) (n := 1) (v := slV snm) (t := 156) hS5 (by kernel_rfl) rfl (by simp) (by simp [Value.cells, Value.oneCell'])
      refine ⟨w6, h6, ?_⟩
      have hS6 : Sep E w6 (rChunkD M d sfl snm R.sk R.sc R.lf :: (CF ++ (CN ++ (G ++ (C ++ (wC :: (R.CF ++ L))))))) := hS6
      obtain ⟨s7, w7, C7, h7, ho7, hS7⟩ := Sep.litG0 (α := ByteArray × Nat) (enc := encN) ti156 hS6 (by kernel_rfl)
      obtain ⟨s8, w8, C8, h8, ho8, hS8⟩ := Sep.appG (ys := MDisk.numbered 0 nm) (ty := 156) encN_ok ti156 hS7 ho7 (hon.rds.mono fun c hc => by simp [hc]) (by rw [MDisk.numbered_len]; simp; omega) (by rw [MDisk.numbered_len]; simp; unfold maxLen; omega)
      refine ⟨s7, w7, h7, s8, w8, h8, ?_⟩
      rw [List.nil_append] at ho8
      have hS8' : Sep E w8 (rChunkD M d sfl snm R.sk R.sc R.lf :: (C8 ++ (CF ++ (CN ++ (G ++ (C ++ (wC :: (R.CF ++ L)))))))) := hS8.weak (by intro f; simp only [ms_append, ms_cons, ms_nil]; omega)
      obtain ⟨w9, h9, hS9⟩ := Sep.store (cs := [slV sfl, slV snm, slV R.sk, slV R.sc, .int .i64 (M.room : Int), .bool M.down, .bool M.doomed, .int .i64 R.lf]) (o := 2) (n := 1) (v := slV s8) (t := 156) hS8' (by kernel_rfl) rfl (by simp) (by simp [Value.cells, Value.oneCell'])
      refine ⟨w9, h9, ?_⟩
      obtain ⟨w10, h10, hS10⟩ := Sep.store (cs := [slV sfl, slV snm, slV s8, slV R.sc, .int .i64 (M.room : Int), .bool M.down, .bool M.doomed, .int .i64 R.lf]) (o := 3) (n := 1) (v := .slice none 0 0) (t := 157) hS9 (by kernel_rfl) rfl (by simp) (by simp [Value.cells, Value.oneCell'])
      refine ⟨w10, h10, ?_⟩
      obtain ⟨w11, h11, hS11⟩ := Sep.store (cs := [slV sfl, slV snm, slV s8, .slice none 0 0, .int .i64 (M.room : Int), .bool M.down, .bool M.doomed, .int .i64 R.lf]) (o := 5) (n := 1) (v := .bool false) (t := 4) hS10 (by kernel_rfl) rfl (by simp) (by simp [Value.cells, Value.oneCell'])
      refine ⟨w11, h11, ?_⟩
      obtain ⟨w12, h12, hS12⟩ := Sep.store (cs := [slV sfl, slV snm, slV s8, .slice none 0 0, .int .i64 (M.room : Int), .bool false, .bool M.doomed, .int .i64 R.lf]) (o := 6) (n := 1) (v := .bool false) (t := 4) hS11 (by kernel_rfl) rfl (by simp) (by simp [Value.cells, Value.oneCell'])
      refine ⟨w12, h12, ⟨fl, sfl, CF, snm, s8, SV.nil, R.lf⟩, C8 ++ (CN ++ (G ++ (C ++ (wC :: R.CF)))), rfl, ⟨hfl2, fun r hr => (hfb r hr).mono fun c hc => by simp [hc], hof, hon.rds.mono fun c hc => by simp [hc], ho8.rds.mono fun c hc => by simp [hc], RdS.none _ _, fun h => by cases h⟩, ?_⟩
      have hS12 : Sep E w12 (rChunkD (⟨M.crashed ns 0 nm, MDisk.numbered 0 nm, MDisk.numbered 0 nm, [], M.room, false, false, 0⟩ : MDisk) d sfl snm s8 SV.nil R.lf :: (C8 ++ (CF ++ (CN ++ (G ++ (C ++ (wC :: (R.CF ++ L)))))))) := hS12
      exact hS12.weak (by intro f; simp only [RS.chunks, ms_append, ms_cons, ms_nil]; omega)

end Go.Proofs.Ytonjaaljnjjjcaa

/- The program's disk: Clone. Conditions: as each lemma says. -/
set_option linter.unusedVariables false
set_option linter.unusedSimpArgs false
namespace Go.Proofs.Ytonjaaljnjjjcaa
open Go Go.RowKit

structure NamesAt (nm : Names) (ord nbs : List Nat) (sees : List ByteArray) (l : List (Ent ByteArray)) (c : Nat) : Prop where
  wf : MapWf l c
  get : ∀ k, k ∈ sees → getE k l = (findN k nm).map fun i => Value.pointer (filePtr nbs (ord.idxOf i))
  none : ∀ k, k ∉ sees → getE k l = none
  here : ∀ k ∈ sees, ∀ i, findN k nm = some i → i ∈ ord

theorem NamesAt.nil (nm : Names) (ord nbs : List Nat) : NamesAt nm ord nbs [] [] 0 := ⟨MapWf.nil _, (fun k hk => by cases hk), (fun k _ => rfl), (fun k hk => by cases hk)⟩
theorem NamesAt.grow {nm : Names} {ord nbs : List Nat} {sees : List ByteArray} {l : List (Ent ByteArray)} {c : Nat} (h : NamesAt nm ord nbs sees l c) (hl : nbs.length = ord.length) (o n : List Nat) : NamesAt nm (ord ++ o) (nbs ++ n) sees l c := by
  refine ⟨h.wf, fun k hk => ?_, h.none, fun k hk i hi => List.mem_append_left _ (h.here k hk i hi)⟩
  rw [h.get k hk]
  cases hf : findN k nm with
  | none => rfl
  | some i =>
    have hi := h.here k hk i hf
    show some (Value.pointer (filePtr nbs (ord.idxOf i))) = some (Value.pointer (filePtr (nbs ++ n) ((ord ++ o).idxOf i)))
    rw [idxOf_app hi, filePtr_app (by rw [hl]; exact List.idxOf_lt_length_iff.2 hi)]
theorem NamesAt.step {nm : Names} {ord nbs : List Nat} {sees : List ByteArray} {l : List (Ent ByteArray)} {c i : Nat} {k : ByteArray} (h : NamesAt nm ord nbs sees l c) (hk : findN k nm = some i) (hi : i ∈ ord) :
    NamesAt nm ord nbs (sees ++ [k]) (setE k (.pointer (filePtr nbs (ord.idxOf i))) c l) (if (getE k l).isSome then c else c + 1) := by
  refine ⟨h.wf.set _ _, fun j hj => ?_, fun j hj => ?_, fun j hj i' hi' => ?_⟩
  · rw [getE_setE]
    by_cases hjk : j = k
    · subst hjk
      rw [if_pos rfl, hk]
      rfl
    · rw [if_neg hjk]
      rcases List.mem_append.1 hj with hj | hj
      · exact h.get j hj
      · simp at hj
        exact absurd hj hjk
  · rw [getE_setE, if_neg fun e => hj (by simp [e]), h.none j fun hm => hj (List.mem_append_left _ hm)]
  · rcases List.mem_append.1 hj with hj | hj
    · exact h.here j hj i' hi'
    · simp at hj
      subst hj
      rw [hk] at hi'
      rw [← Option.some.inj hi']
      exact hi
theorem NamesAt.done {nm : Names} {ord nbs : List Nat} {sees : List ByteArray} {l : List (Ent ByteArray)} {c : Nat} (h : NamesAt nm ord nbs sees l c) (hs : SortedN nm) (ha : ∀ x ∈ nm, x.1 ∈ sees) (hl : nbs.length = ord.length) : NameRep nbs (nm.map (ren ord)) l c := by
  have hall : ∀ k i, findN k nm = some i → k ∈ sees := fun k i hf => ha _ (mem_of_findN hf)
  refine ⟨h.wf, fun k => ?_, fun k i hf => ?_, sorted_ren hs⟩
  · rw [findN_ren]
    cases hf : findN k nm with
    | none =>
      by_cases hk : k ∈ sees
      · rw [h.get k hk, hf]
        rfl
      · rw [h.none k hk]
        rfl
    | some i =>
      rw [h.get k (hall k i hf), hf]
      rfl
  · rw [findN_ren] at hf
    cases hf2 : findN k nm with
    | none => rw [hf2] at hf; cases hf
    | some j =>
      rw [hf2] at hf
      simp only [Option.map_some, Option.some.injEq] at hf
      rw [← hf, hl]
      exact List.idxOf_lt_length_iff.2 (h.here k (hall k j hf2) j hf2)

theorem seen_all {K : Type} {l ks : List (Ent K)} (hn : (l.map (·.born)).Nodup) (hks : ∀ e ∈ ks, e ∈ l) (hall : ∀ e ∈ l, e.born ∈ ks.map (·.born)) : ∀ e ∈ l, e ∈ ks := fun e he => by
  obtain ⟨e', he', hb⟩ := List.mem_map.1 (hall e he)
  have := inj_of_nodup hn (hks e' he') he hb
  exact this ▸ he'

theorem names_seen {bs : List Nat} {nm : Names} {l ks : List (Ent ByteArray)} {c : Nat} (h : NameRep bs nm l c) (hks : ∀ e ∈ ks, e ∈ l) (hall : ∀ e ∈ l, e.born ∈ ks.map (·.born)) : ∀ x ∈ nm, x.1 ∈ ks.map (·.k) := fun x hx => by
  have hg := h.get x.1
  rw [findN_mem h.sorted hx] at hg
  obtain ⟨e, he, hk, _⟩ := mem_of_getE hg
  exact List.mem_map.2 ⟨e, seen_all h.wf.borns hks hall e he, hk⟩

/-- What has been cloned. -/
structure CSt (M : MDisk) (D : DS) (I : List Chunk) (ord : List Nat) (nfs : List FRec) (l : List (Ent (Option Nat))) (c : Nat) : Prop where
  own : OwnAt D.bs ord (nfs.map (·.b)) l c
  fs : nfs.map (·.f) = ord.map M.fileAt
  rd : ∀ r ∈ nfs, RdB I r.s r.f.bytes

theorem chs_grow {ord nbs : List Nat} (hl : nbs.length = ord.length) (o n : List Nat) : ∀ {l : List MChange}, (∀ c ∈ l, c.new ≠ noName → c.file ∈ ord) → (l.map (renC (ord ++ o))).flatMap (chV (nbs ++ n)) = (l.map (renC ord)).flatMap (chV nbs)
  | [], _ => rfl
  | c :: l, h => by
    rw [List.map_cons, List.map_cons, List.flatMap_cons, List.flatMap_cons, chs_grow hl o n fun c' hc' => h c' (List.mem_cons_of_mem _ hc')]
    congr 1
    show [Value.string c.gone, .string c.new, .pointer (if c.new = noName then none else filePtr (nbs ++ n) (if c.new = noName then c.file else (ord ++ o).idxOf c.file))] = [Value.string c.gone, .string c.new, .pointer (if c.new = noName then none else filePtr nbs (if c.new = noName then c.file else ord.idxOf c.file))]
    by_cases hn : c.new = noName
    · simp only [hn, if_true]
    · have hm := h c List.mem_cons_self hn
      simp only [hn, if_false]
      rw [idxOf_app hm, filePtr_app (by rw [hl]; exact List.idxOf_lt_length_iff.2 hm)]

theorem z140 : (Pr.info? 140).bind (·.zero) = some (.agg #[.map none, .map none, .slice none 0 0, .int .i64 0, .bool false, .bool false, .int .i64 0]) := by kernel_rfl
theorem z170 : (Pr.info? 170).bind (·.zero) = some (.map none) := by kernel_rfl
theorem bs138 (g n : ByteArray) (p : Option Addr) : bsV Pr 138 1 [(0, .agg #[.string g, .string n, .pointer p])] = some [.string g, .string n, .pointer p] := by kernel_rfl

/-- Clone. -/
theorem k42 {E w : World} {L I : List Chunk} {M : MDisk} {D : DS} {d n b : Nat} (hS : Sep E w (D.chunks M d ++ L)) (hD : DRep D M I) (hg : M.Good) (hm : M.Small n b) (hn : n ≤ 1000000) :
    Calls Pr 42 #[.pointer (some ⟨d, 0, none⟩)] w fun e w' => ∃ (D' : DS) (x : Nat) (ord : List Nat) (C : List Chunk), e = .returned (.pointer (some ⟨x, 0, none⟩)) ∧ Covers M ord ∧ DRep D' (M.renum ord) I ∧ Sep E w' (D'.chunks (M.renum ord) x ++ (D.chunks M d ++ (C ++ L))) := by
  refine call42 ?_
  unfold ir42
  refine brc_false rfl ?_
  have hnod := DS.nodup hS
  have hbl := bs_len hD
  have hcm := small_ch hm
  let F := D.chunks M d ++ L
  have md : dChunk M d D.mn D.mq D.cs ∈ F := List.mem_append_left _ List.mem_cons_self
  have mdd : ∀ {Q : List Chunk}, (∀ c ∈ F, c ∈ Q) → dChunk M d D.mn D.mq D.cs ∈ Q := fun h => h _ md
  have hFF : ∀ x ∈ D.fs.map fChunk, x ∈ F := fun x hx => by simp [F, DS.chunks, hx]
  refine ⟨some D.mn, some D.mq, D.cs, (M.room : Int), M.down, M.doomed, (M.left : Int), hS.loadS (b := d) (o := 0) (n := 7) md (by kernel_rfl) (by kernel_rfl) rfl (by simp), ?_⟩
  obtain ⟨x, w1, h1, hS1⟩ := hS.alloc (t := 140) z140
  refine ⟨_, w1, h1, ?_⟩
  obtain ⟨w2, h2, hS2⟩ := Sep.store (cs := [.map none, .map none, .slice none 0 0, .int .i64 0, .bool false, .bool false, .int .i64 0]) (o := 0) (n := 7) (v := .agg #[.map (some D.mn), .map (some D.mq), slV D.cs, .int .i64 (M.room : Int), .bool M.down, .bool M.doomed, .int .i64 (M.left : Int)]) (t := 140) hS1 (by kernel_rfl) rfl (by simp) (by simp [Value.cells, Value.oneCell'])
  refine ⟨w2, h2, ?_⟩
  have hS2 : Sep E w2 (dChunk M x D.mn D.mq D.cs :: F) := hS2
  obtain ⟨m3, w3, h3, hS3⟩ := hS2.makeMap (kv := kvO) 170
  refine ⟨m3, w3, h3, ?_⟩
  obtain ⟨q, w4, h4, hS4⟩ := hS3.alloc (t := 170) z170
  refine ⟨_, w4, h4, ?_⟩
  obtain ⟨w5, h5, hS5⟩ := Sep.store (cs := [.map none]) (o := 0) (n := 1) (v := .map (some m3)) (t := 170) hS4 (by kernel_rfl) rfl (by simp) (by simp [Value.cells, Value.oneCell'])
  refine ⟨w5, h5, ?_⟩
  have hS5 : Sep E w5 (cellM q m3 :: (ownM m3 [] 0 :: (dChunk M x D.mn D.mq D.cs :: F))) := hS5
  obtain ⟨m4, w6, h6, hS6⟩ := hS5.makeMap (kv := Value.string) 137
  refine ⟨m4, w6, h6, ?_⟩
  obtain ⟨m5, w7, h7, hS7⟩ := hS6.makeMap (kv := Value.string) 137
  refine ⟨m5, w7, h7, ?_⟩
  have hS7' : Sep E w7 (dChunk M x D.mn D.mq D.cs :: (strM m4 [] 0 :: strM m5 [] 0 :: ownM m3 [] 0 :: cellM q m3 :: F)) := Sep.weak (L := strM m5 [] 0 :: strM m4 [] 0 :: (cellM q m3 :: (ownM m3 [] 0 :: (dChunk M x D.mn D.mq D.cs :: F)))) hS7 (by intro f; simp only [ms_append, ms_cons, ms_nil]; omega)
  obtain ⟨w8, h8, hS8⟩ := Sep.store (cs := [.map (some D.mn), .map (some D.mq), slV D.cs, .int .i64 (M.room : Int), .bool M.down, .bool M.doomed, .int .i64 (M.left : Int)]) (o := 0) (n := 1) (v := .map (some m4)) (t := 137) hS7' (by kernel_rfl) rfl (by simp) (by simp [Value.cells, Value.oneCell'])
  refine ⟨w8, h8, ?_⟩
  obtain ⟨w9, h9, hS9⟩ := Sep.store (cs := [.map (some m4), .map (some D.mq), slV D.cs, .int .i64 (M.room : Int), .bool M.down, .bool M.doomed, .int .i64 (M.left : Int)]) (o := 1) (n := 1) (v := .map (some m5)) (t := 137) hS8 (by kernel_rfl) rfl (by simp) (by simp [Value.cells, Value.oneCell'])
  refine ⟨w9, h9, ?_⟩
  obtain ⟨w10, h10, hS10⟩ := Sep.store (cs := [.map (some m4), .map (some m5), slV D.cs, .int .i64 (M.room : Int), .bool M.down, .bool M.doomed, .int .i64 (M.left : Int)]) (o := 2) (n := 1) (v := .slice none 0 0) (t := 138) hS9 (by kernel_rfl) rfl (by simp) (by simp [Value.cells, Value.oneCell'])
  refine ⟨w10, h10, ?_⟩
  let dX : SV → Chunk := fun s => dChunk M x m4 m5 s
  have hS10 : Sep E w10 (dX SV.nil :: (strM m4 [] 0 :: strM m5 [] 0 :: ownM m3 [] 0 :: cellM q m3 :: F)) := hS10
  clear hS1 hS2 hS3 hS4 hS5 hS6 hS7 hS7' hS8 hS9 h1 h2 h3 h4 h5 h6 h7 h8 h9 h10
  refine ⟨some D.mn, hS10.load (b := d) (o := 0) (mdd fun c hc => by simp [hc]) rfl (by kernel_rfl), ?_⟩
  obtain ⟨it, w11, h11, hS11⟩ := hS10.range (mt := 137) (m := D.mn) (l := D.ln) (c := D.cn) (kv := Value.string) (by simp [F, DS.chunks]) u137
  refine ⟨_, w11, h11, ?_⟩
  -- the names as they are
  refine ⟨fun k σ w => ∃ (ks : List (Ent ByteArray)) (ord : List Nat) (nfs : List FRec) (ls : List (Ent (Option Nat))) (cs : Nat) (l4 : List (Ent ByteArray)) (c4 : Nat), (∀ e ∈ ks, e ∈ D.ln) ∧ k = D.ln.length - cnt (ks.map (·.born)) D.ln ∧ CSt M D I ord nfs ls cs ∧ NamesAt M.now ord (nfs.map (·.b)) (ks.map (·.k)) l4 c4 ∧
    Sep E w (iterC it D.mn D.cn (ks.map (·.born)) :: (ownM m3 ls cs :: (cellM q m3 :: (nfs.map fChunk ++ (dX SV.nil :: strM m4 l4 c4 :: strM m5 [] 0 :: F))))), _, ⟨[], [], [], [], 0, [], 0, (fun e he => by cases he), rfl, ⟨OwnAt.nil _, rfl, fun r hr => by cases hr⟩, NamesAt.nil _ _ _, Sep.weak (L := iterC it D.mn D.cn [] :: (dX SV.nil :: (strM m4 [] 0 :: strM m5 [] 0 :: ownM m3 [] 0 :: cellM q m3 :: F))) hS11 (by intro f; simp only [List.map_nil, ms_append, ms_cons, ms_nil]; omega)⟩, ?_⟩
  clear hS10 hS11 h11
  rintro k σ w12 ⟨ks, ord, nfs, ls, cs, l4, c4, hks, rfl, hC, hN, hS12⟩ _
  dsimp only
  refine hS12.next (m := D.mn) (l := D.ln) (kv := Value.string) (by simp [F, DS.chunks]) hD.now.wf.born (fun hall => ?_) (fun e he hes w14 hS14 => ?_)
  · -- the names that are kept
    have hN1 := names_seen hD.now hks hall
    clear hks
    generalize ks.map (·.k) = sees at *
    let G1 : List Chunk := [iterC it D.mn D.cn (ks.map (·.born))]
    refine ⟨some D.mq, hS12.load (b := d) (o := 1) (mdd fun c hc => by simp [hc]) rfl (by kernel_rfl), ?_⟩
    obtain ⟨it2, w15, h15, hS15⟩ := hS12.range (mt := 137) (m := D.mq) (l := D.lk) (c := D.ck) (kv := Value.string) (by simp [F, DS.chunks]) u137
    refine ⟨_, w15, h15, ?_⟩
    refine ⟨fun k σ w => ∃ (ks : List (Ent ByteArray)) (ord : List Nat) (nfs : List FRec) (ls : List (Ent (Option Nat))) (cs : Nat) (l5 : List (Ent ByteArray)) (c5 : Nat), (∀ e ∈ ks, e ∈ D.lk) ∧ k = D.lk.length - cnt (ks.map (·.born)) D.lk ∧ CSt M D I ord nfs ls cs ∧ NamesAt M.now ord (nfs.map (·.b)) sees l4 c4 ∧ NamesAt M.kept ord (nfs.map (·.b)) (ks.map (·.k)) l5 c5 ∧
      Sep E w (iterC it2 D.mq D.ck (ks.map (·.born)) :: (ownM m3 ls cs :: (cellM q m3 :: (nfs.map fChunk ++ (dX SV.nil :: strM m4 l4 c4 :: strM m5 l5 c5 :: (G1 ++ F)))))), _, ⟨[], ord, nfs, ls, cs, [], 0, (fun e he => by cases he), rfl, hC, hN, NamesAt.nil _ _ _, Sep.weak (L := iterC it2 D.mq D.ck [] :: (iterC it D.mn D.cn (ks.map (·.born)) :: (ownM m3 ls cs :: (cellM q m3 :: (nfs.map fChunk ++ (dX SV.nil :: strM m4 l4 c4 :: strM m5 [] 0 :: F)))))) hS15 (by intro f; simp only [G1, List.map_nil, ms_append, ms_cons, ms_nil]; omega)⟩, ?_⟩
    clear hS12 hS15 h15 hC hN
    clear_value G1
    clear ord nfs ls cs hall
    rintro k σ w16 ⟨ks, ord, nfs, ls, cs, l5, c5, hks, rfl, hC, hN, hK, hS16⟩ _
    dsimp only
    refine hS16.next (m := D.mq) (l := D.lk) (kv := Value.string) (by simp [F, DS.chunks]) hD.kept.wf.born (fun hall => ?_) (fun e he hes w18 hS18 => ?_)
    · -- the changes
      have hK1 := names_seen hD.kept hks hall
      clear hks
      generalize ks.map (·.k) = sees2 at *
      let G2 : List Chunk := iterC it2 D.mq D.ck (ks.map (·.born)) :: G1
      refine ⟨D.cs, hS16.load (b := d) (o := 2) (mdd fun c hc => by simp [hc]) rfl (by kernel_rfl), ?_⟩
      have hcl : D.cs.len = M.changes.length := RdG.size (chV_ok D.bs) hD.own.rds
      refine ⟨fun k σ w => ∃ (j : Nat) (ord : List Nat) (nfs : List FRec) (ls : List (Ent (Option Nat))) (cs : Nat) (s : SV) (CC G : List Chunk), j ≤ M.changes.length ∧ k = M.changes.length - j ∧ σ = ((j : Int), ()) ∧ CSt M D I ord nfs ls cs ∧ NamesAt M.now ord (nfs.map (·.b)) sees l4 c4 ∧ NamesAt M.kept ord (nfs.map (·.b)) sees2 l5 c5 ∧ (∀ c ∈ M.changes.take j, c.new ≠ noName → c.file ∈ ord) ∧ Own 153 3 s (((M.changes.take j).map (renC ord)).flatMap (chV (nfs.map (·.b)))) CC ∧
        Sep E w (ownM m3 ls cs :: (cellM q m3 :: (nfs.map fChunk ++ (dX s :: strM m4 l4 c4 :: strM m5 l5 c5 :: (CC ++ (G ++ (G2 ++ F))))))), M.changes.length, ⟨0, ord, nfs, ls, cs, SV.nil, [], [], Nat.zero_le _, rfl, rfl, hC, hN, hK, (fun c hc => by simp at hc), Own.nil _ _, hS16.weak (by intro f; simp only [G2, ms_append, ms_cons, ms_nil]; omega)⟩, ?_⟩
      clear hS16 hC hN hK
      clear_value G2
      clear ord nfs ls cs hall
      rintro k σ w19 ⟨j, ord, nfs, ls, cs, s, CC, G, hj, rfl, rfl, hC, hN, hK, hch, ho, hS19⟩ _
      dsimp only
      refine brc_intro (fun h => ?_) (fun h => ?_)
      · have h : j < M.changes.length := by simp at h; omega
        have hx : M.changes[j]? = some M.changes[j] := List.getElem?_eq_getElem h
        generalize M.changes[j] = c at hx
        have hcm' : c ∈ M.changes := List.mem_of_getElem? hx
        obtain ⟨a, ha, hat0, _⟩ := RdG.at_ (chV_ok D.bs) hD.own.rds hx
        rw [ha]
        generalize hp : (if c.new = noName then none else filePtr D.bs c.file) = p
        have hcv : chV D.bs c = [.string c.gone, .string c.new, .pointer p] := by simp [chV, hp]
        rw [hcv] at hat0
        refine ⟨⟨by omega, by omega⟩, c.gone, c.new, p, hat0 (t := 153) (by kernel_rfl) (by kernel_rfl) hS19 (fun c hc => by simp [F, DS.chunks, hc]), ?_⟩
        obtain ⟨y, w20, h20, hS20⟩ := hS19.alloc (t := 153) z153
        refine ⟨_, w20, h20, ?_⟩
        obtain ⟨w21, h21, hS21⟩ := Sep.store (cs := [.string ByteArray.empty, .string ByteArray.empty, .pointer none]) (o := 0) (n := 3) (v := .agg #[.string c.gone, .string c.new, .pointer p]) (t := 153) hS20 (by kernel_rfl) rfl (by simp) (by simp [Value.cells, Value.oneCell'])
        let yC : Option Addr → Chunk := fun p => (y, .cells #[.string c.gone, .string c.new, .pointer p] 153 (0, 0))
        let Z : List Chunk := dX s :: strM m4 l4 c4 :: strM m5 l5 c5 :: (CC ++ (G ++ (G2 ++ F)))
        have hS21 : Sep E w21 (yC p :: (ownM m3 ls cs :: (cellM q m3 :: (nfs.map fChunk ++ Z)))) := hS21
        refine ⟨w21, h21, p, hS21.load (b := y) (o := 2) List.mem_cons_self rfl (by kernel_rfl), ?_⟩
        -- one more change
        have fin : ∀ (o : List Nat) (nf : List FRec) (ls' : List (Ent (Option Nat))) (cs' : Nat) (w22 : World) (p3 : Option Addr), CSt M D I (ord ++ o) (nfs ++ nf) ls' cs' → (c.new ≠ noName → c.file ∈ ord ++ o) → p3 = (if c.new = noName then none else filePtr ((nfs ++ nf).map (·.b)) ((ord ++ o).idxOf c.file)) → Sep E w22 (ownM m3 ls' cs' :: (cellM q m3 :: ((nfs ++ nf).map fChunk ++ (yC p :: Z)))) →
            ∃ (w23 : World), Sem.run Pr (Instr.storeAt 141 (.pointer (some (Addr.add ⟨y, 0, none⟩ 2))) (.pointer p3)) w22 = .ok () w23 ∧ ∃ (s3 : SV), At Pr w23 (loadVar 138 (Addr.add ⟨x, 0, none⟩ 2)) (.slice s3.a s3.len s3.cap) ∧ ∃ (str3 : ByteArray) (str4 : ByteArray) (p4 : Option Addr), At Pr w23 (loadVar 153 ⟨y, 0, none⟩) (.agg #[(.string str3), (.string str4), (.pointer p4)]) ∧
              ∃ (s4 : SV) (w24 : World), Sem.run Pr (Instr.buildSlice 138 1 #[(0, (.agg #[(.string str3), (.string str4), (.pointer p4)]))]) w23 = .ok (.slice s4.a s4.len s4.cap) w24 ∧ ∃ (s5 : SV) (w25 : World), Sem.run Pr (Builtin.append_ #[138, 138] 138 #[(.slice s3.a s3.len s3.cap), (.slice s4.a s4.len s4.cap)]) w24 = .ok (.slice s5.a s5.len s5.cap) w25 ∧
                ∃ (w26 : World), Sem.run Pr (Instr.storeAt 138 (.pointer (some (Addr.add ⟨x, 0, none⟩ 2))) (.slice s5.a s5.len s5.cap)) w25 = .ok () w26 ∧
                  ∃ k', k' < M.changes.length - j ∧ ∃ (j' : Nat) (ord : List Nat) (nfs : List FRec) (ls : List (Ent (Option Nat))) (cs : Nat) (s : SV) (CC G : List Chunk), j' ≤ M.changes.length ∧ k' = M.changes.length - j' ∧ (IntKind.wrap .i64 ((j : Int) + 1), ()) = ((j' : Int), ()) ∧ CSt M D I ord nfs ls cs ∧ NamesAt M.now ord (nfs.map (·.b)) sees l4 c4 ∧ NamesAt M.kept ord (nfs.map (·.b)) sees2 l5 c5 ∧ (∀ c ∈ M.changes.take j', c.new ≠ noName → c.file ∈ ord) ∧ Own 153 3 s (((M.changes.take j').map (renC ord)).flatMap (chV (nfs.map (·.b)))) CC ∧
                    Sep E w26 (ownM m3 ls cs :: (cellM q m3 :: (nfs.map fChunk ++ (dX s :: strM m4 l4 c4 :: strM m5 l5 c5 :: (CC ++ (G ++ (G2 ++ F))))))) := by
          intro o nf ls' cs' w22 p3 hC' hcf hp3 hS22
          have hS22' : Sep E w22 (yC p :: (ownM m3 ls' cs' :: (cellM q m3 :: ((nfs ++ nf).map fChunk ++ Z)))) := hS22.weak (by intro f; simp only [ms_append, ms_cons, ms_nil]; omega)
          obtain ⟨w23, h23, hS23⟩ := Sep.store (cs := [.string c.gone, .string c.new, .pointer p]) (o := 2) (n := 1) (v := .pointer p3) (t := 141) hS22' (by kernel_rfl) rfl (by simp) (by simp [Value.cells, Value.oneCell'])
          have hS23 : Sep E w23 (yC p3 :: (ownM m3 ls' cs' :: (cellM q m3 :: ((nfs ++ nf).map fChunk ++ Z)))) := hS23
          have mx : dX s ∈ yC p3 :: (ownM m3 ls' cs' :: (cellM q m3 :: ((nfs ++ nf).map fChunk ++ Z))) := by simp [Z]
          refine ⟨w23, h23, s, hS23.load (b := x) (o := 2) mx rfl (by kernel_rfl), c.gone, c.new, p3, hS23.loadS (b := y) (o := 0) (n := 3) List.mem_cons_self (by kernel_rfl) (by kernel_rfl) rfl (by simp), ?_⟩
          have hgrow := chs_grow hC.own.len o (nf.map (·.b)) hch
          rw [← hgrow, ← List.map_append] at ho
          have hS23' : Sep E w23 (CC ++ (yC p3 :: (ownM m3 ls' cs' :: (cellM q m3 :: ((nfs ++ nf).map fChunk ++ (dX s :: strM m4 l4 c4 :: strM m5 l5 c5 :: (G ++ (G2 ++ F)))))))) := hS23.weak (by intro f; simp only [Z, ms_append, ms_cons, ms_nil]; omega)
          have hpv : chV ((nfs ++ nf).map (·.b)) (renC (ord ++ o) c) = [.string c.gone, .string c.new, .pointer p3] := by
            rw [hp3]
            unfold chV renC
            by_cases hw : c.new = noName
            · simp only [hw, if_true]
            · simp only [hw, if_false]
          obtain ⟨s4, w24, h24, s5, w25, CC', G', h25, ho25, hS25⟩ := Sep.pushG (chV_ok ((nfs ++ nf).map (·.b))) ti138 (x := renC (ord ++ o) c) (v := .agg #[.string c.gone, .string c.new, .pointer p3]) (ty := 138) hS23' ho (by rw [hpv]; exact bs138 _ _ _) (by simp; omega) (by simp; unfold maxLen; omega)
          refine ⟨s4, w24, h24, s5, w25, h25, ?_⟩
          have hS25' : Sep E w25 (dX s :: (CC' ++ (G' ++ (yC p3 :: (ownM m3 ls' cs' :: (cellM q m3 :: ((nfs ++ nf).map fChunk ++ (strM m4 l4 c4 :: strM m5 l5 c5 :: (G ++ (G2 ++ F)))))))))) := hS25.weak (by intro f; simp only [ms_append, ms_cons, ms_nil]; omega)
          obtain ⟨w26, h26, hS26⟩ := Sep.store (cs := [.map (some m4), .map (some m5), slV s, .int .i64 (M.room : Int), .bool M.down, .bool M.doomed, .int .i64 (M.left : Int)]) (o := 2) (n := 1) (v := slV s5) (t := 138) hS25' (by kernel_rfl) rfl (by simp) (by simp [Value.cells, Value.oneCell'])
          have hS26 : Sep E w26 (dX s5 :: (CC' ++ (G' ++ (yC p3 :: (ownM m3 ls' cs' :: (cellM q m3 :: ((nfs ++ nf).map fChunk ++ (strM m4 l4 c4 :: strM m5 l5 c5 :: (G ++ (G2 ++ F)))))))))) := hS26
          have hNg := hN.grow hC.own.len o (nf.map (·.b))
          have hKg := hK.grow hC.own.len o (nf.map (·.b))
          rw [← List.map_append] at hNg hKg
          refine ⟨w26, h26, M.changes.length - (j + 1), by omega, j + 1, ord ++ o, nfs ++ nf, ls', cs', s5, CC', G' ++ (yC p3 :: G), by omega, rfl, by rw [w64 (by omega) (by omega)]; rfl, hC', hNg, hKg, fun c' hc' hn' => ?_, ?_, hS26.weak (by intro f; simp only [ms_append, ms_cons, ms_nil]; omega)⟩
          · rw [take_at hx] at hc'
            rcases List.mem_append.1 hc' with hc' | hc'
            · exact List.mem_append_left _ (hch c' hc' hn')
            · rw [List.mem_singleton] at hc'
              subst hc'
              exact hcf hn'
          · have hmm : (M.changes.take (j + 1)).map (renC (ord ++ o)) = (M.changes.take j).map (renC (ord ++ o)) ++ [renC (ord ++ o) c] := by rw [take_at hx, List.map_append]; rfl
            rw [hmm]
            exact ho25
        by_cases hw : c.new = noName
        · rw [if_pos hw] at hp
          subst hp
          have hS21' : Sep E w21 (ownM m3 ls cs :: (cellM q m3 :: (nfs.map fChunk ++ (yC none :: Z)))) := hS21.weak (by intro f; simp only [ms_append, ms_cons, ms_nil]; omega)
          have hpl : ∀ i (h : i < D.bs.length), Plain w21 D.bs[i] := fun i h => by
            have hm : D.bs[i] ∈ D.fs.map (·.b) := List.getElem_mem h
            obtain ⟨r', hr', e⟩ := List.mem_map.1 hm
            rw [← e]
            exact hS21'.plain (cs := #[slV r'.s, .int .i64 (r'.f.kept : Int)]) (T := 146) (by
              have := hFF (fChunk r') (List.mem_map.2 ⟨r', hr', rfl⟩)
              have this : (r'.b, Obj.cells #[slV r'.s, .int .i64 (r'.f.kept : Int)] 146 (0, 0)) ∈ F := this
              simp [Z, this])
          have hcall := k106n hS21' hC.own hpl
          refine ⟨hcall.1, Calls.mono (R := _) hcall.2 ?_⟩
          rintro _ w22 ⟨rfl, rfl⟩
          refine ⟨none, rfl, ?_⟩
          have := fin [] [] ls cs w22 none (by simpa only [List.append_nil] using hC) (fun hn => absurd hw hn) (by rw [if_pos hw]) (by simpa only [List.append_nil] using hS21')
          exact this
        · rw [if_neg hw] at hp
          subst hp
          have hS21' : Sep E w21 (ownM m3 ls cs :: (cellM q m3 :: (nfs.map fChunk ++ (yC (filePtr D.bs c.file) :: Z)))) := hS21.weak (by intro f; simp only [ms_append, ms_cons, ms_nil]; omega)
          have hcall := k106 hS21' hD (fun x hx => by simp [Z, hFF x hx]) hnod hC.own hC.fs hC.rd (hD.chOk c hcm' hw)
          refine ⟨hcall.1, Calls.mono (R := _) hcall.2 ?_⟩
          rintro _ w22 ⟨o, nf, ls', cs', rfl, hio, hO', hf', hr', hS22⟩
          refine ⟨_, rfl, ?_⟩
          exact fin o nf ls' cs' w22 _ ⟨hO', hf', hr'⟩ (fun _ => hio) (by rw [if_neg hw]) hS22
      · have h : j = M.changes.length := by simp at h; omega
        subst h
        rw [List.take_length] at hch ho
        have hcov : Covers M ord := by
          refine ⟨hC.own.nodup, fun i hi => by rw [← hbl]; exact hC.own.lt i hi, fun x hx => hN.here _ (hN1 x hx) _ (findN_mem hD.now.sorted hx), fun x hx => hK.here _ (hK1 x hx) _ (findN_mem hD.kept.sorted hx), hch⟩
        refine ⟨⟨nfs, m4, m5, l4, l5, c4, c5, s, CC⟩, x, ord, ownM m3 ls cs :: cellM q m3 :: (G ++ G2), rfl, hcov, ⟨hC.fs, hC.rd, hN.done hD.now.sorted hN1 hC.own.len, hK.done hD.kept.sorted hK1 hC.own.len, ho, fun c hc hn => ?_⟩, ?_⟩
        · obtain ⟨c', hc', rfl⟩ := List.mem_map.1 hc
          have hn : c'.new ≠ noName := hn
          show (if c'.new = noName then c'.file else ord.idxOf c'.file) < (nfs.map (·.b)).length
          rw [if_neg hn, hC.own.len]
          exact List.idxOf_lt_length_iff.2 (hch c' hc' hn)
        · have : Sep E w19 (DS.chunks ⟨nfs, m4, m5, l4, l5, c4, c5, s, CC⟩ M x ++ (D.chunks M d ++ ((ownM m3 ls cs :: cellM q m3 :: (G ++ G2)) ++ L))) := hS19.weak (by
            have e : ∀ f : Chunk → Nat, ms f (DS.chunks ⟨nfs, m4, m5, l4, l5, c4, c5, s, CC⟩ M x) = f (dX s) + (f (strM m4 l4 c4) + (f (strM m5 l5 c5) + (ms f CC + ms f (nfs.map fChunk)))) := fun f => by
              unfold DS.chunks
              rw [ms_cons, ms_cons, ms_cons, ms_append]
            intro f
            simp only [F, e, ms_append, ms_cons, ms_nil]
            omega)
          exact this
    · obtain ⟨i, hf, hi, hv⟩ := hD.kept.ent he
      have hent := hS18.entry (it := it2) (m := D.mq) (l := D.lk) (kv := Value.string) List.mem_cons_self (by simp [F, DS.chunks]) he hD.kept.wf.borns
      rw [hv] at hent
      refine ⟨e.k, _, hent, fun w => Sep E w [dX SV.nil], hS18.drew.weak (by intro f; simp only [ms_append, ms_cons, ms_nil]; omega), some m5, fun w hw => hw.load (b := x) (o := 1) List.mem_cons_self rfl (by kernel_rfl), ?_⟩
      have hS18' : Sep E (World.drew w18) (ownM m3 ls cs :: (cellM q m3 :: (nfs.map fChunk ++ (iterC it2 D.mq D.ck (ks.map (·.born) ++ [e.born]) :: dX SV.nil :: strM m4 l4 c4 :: strM m5 l5 c5 :: (G1 ++ F))))) := hS18.drew.weak (by intro f; simp only [ms_append, ms_cons, ms_nil]; omega)
      have hcall := k106 hS18' hD (fun x hx => by simp [hFF x hx]) hnod hC.own hC.fs hC.rd hi
      refine ⟨hcall.1, Calls.mono (R := _) hcall.2 ?_⟩
      rintro _ w22 ⟨o, nf, ls', cs', rfl, hio, hO', hf', hr', hS22⟩
      refine ⟨_, rfl, fun w => Sep E w [dX SV.nil], fun w hw => hw, hS22.weak (by intro f; simp only [ms_append, ms_cons, ms_nil]; omega), ?_⟩
      have hS22' : Sep E w22 (strM m5 l5 c5 :: (ownM m3 ls' cs' :: (cellM q m3 :: ((nfs ++ nf).map fChunk ++ (iterC it2 D.mq D.ck (ks.map (·.born) ++ [e.born]) :: dX SV.nil :: strM m4 l4 c4 :: (G1 ++ F)))))) := hS22.weak (by intro f; simp only [ms_append, ms_cons, ms_nil]; omega)
      obtain ⟨w23, h23, hS23⟩ := hS22'.mapUpdate (mt := 137) u137 (.pointer (filePtr ((nfs ++ nf).map (·.b)) ((ord ++ o).idxOf i))) (keyOk_str u9 w22 l5 e.k)
      have hNg := hN.grow hC.own.len o (nf.map (·.b))
      have hKg := hK.grow hC.own.len o (nf.map (·.b))
      rw [← List.map_append] at hNg hKg
      have hmk : (ks ++ [e]).map (·.k) = ks.map (·.k) ++ [e.k] := by simp
      have hmb : (ks ++ [e]).map (·.born) = ks.map (·.born) ++ [e.born] := by simp
      have hKs := hKg.step (k := e.k) hf hio
      refine ⟨w23, h23, fun _ => True, trivial, _, cnt_step he hD.kept.wf.borns hes, ks ++ [e], ord ++ o, nfs ++ nf, ls', cs', _, _, fun e' he' => ?_, by rw [List.map_append]; rfl, ⟨hO', hf', hr'⟩, hNg, by rw [hmk]; exact hKs, ?_⟩
      · rcases List.mem_append.1 he' with he' | he'
        · exact hks e' he'
        · rw [List.mem_singleton] at he'
          rw [he']
          exact he
      · rw [hmb]
        exact hS23.weak (by intro f; simp only [strM, ms_append, ms_cons, ms_nil]; omega)
  · obtain ⟨i, hf, hi, hv⟩ := hD.now.ent he
    have hent := hS14.entry (it := it) (m := D.mn) (l := D.ln) (kv := Value.string) List.mem_cons_self (by simp [F, DS.chunks]) he hD.now.wf.borns
    rw [hv] at hent
    refine ⟨e.k, _, hent, fun w => Sep E w [dX SV.nil], hS14.drew.weak (by intro f; simp only [ms_append, ms_cons, ms_nil]; omega), some m4, fun w hw => hw.load (b := x) (o := 0) List.mem_cons_self rfl (by kernel_rfl), ?_⟩
    have hS14' : Sep E (World.drew w14) (ownM m3 ls cs :: (cellM q m3 :: (nfs.map fChunk ++ (iterC it D.mn D.cn (ks.map (·.born) ++ [e.born]) :: dX SV.nil :: strM m4 l4 c4 :: strM m5 [] 0 :: F)))) := hS14.drew.weak (by intro f; simp only [ms_append, ms_cons, ms_nil]; omega)
    have hcall := k106 hS14' hD (fun x hx => by simp [hFF x hx]) hnod hC.own hC.fs hC.rd hi
    refine ⟨hcall.1, Calls.mono (R := _) hcall.2 ?_⟩
    rintro _ w22 ⟨o, nf, ls', cs', rfl, hio, hO', hf', hr', hS22⟩
    refine ⟨_, rfl, fun w => Sep E w [dX SV.nil], fun w hw => hw, hS22.weak (by intro f; simp only [ms_append, ms_cons, ms_nil]; omega), ?_⟩
    have hS22' : Sep E w22 (strM m4 l4 c4 :: (ownM m3 ls' cs' :: (cellM q m3 :: ((nfs ++ nf).map fChunk ++ (iterC it D.mn D.cn (ks.map (·.born) ++ [e.born]) :: dX SV.nil :: strM m5 [] 0 :: F))))) := hS22.weak (by intro f; simp only [ms_append, ms_cons, ms_nil]; omega)
    obtain ⟨w23, h23, hS23⟩ := hS22'.mapUpdate (mt := 137) u137 (.pointer (filePtr ((nfs ++ nf).map (·.b)) ((ord ++ o).idxOf i))) (keyOk_str u9 w22 l4 e.k)
    have hNg := hN.grow hC.own.len o (nf.map (·.b))
    rw [← List.map_append] at hNg
    have hmk : (ks ++ [e]).map (·.k) = ks.map (·.k) ++ [e.k] := by simp
    have hmb : (ks ++ [e]).map (·.born) = ks.map (·.born) ++ [e.born] := by simp
    have hNs := hNg.step (k := e.k) hf hio
    refine ⟨w23, h23, fun _ => True, trivial, _, cnt_step he hD.now.wf.borns hes, ks ++ [e], ord ++ o, nfs ++ nf, ls', cs', _, _, fun e' he' => ?_, by rw [List.map_append]; rfl, ⟨hO', hf', hr'⟩, by rw [hmk]; exact hNs, ?_⟩
    · rcases List.mem_append.1 he' with he' | he'
      · exact hks e' he'
      · rw [List.mem_singleton] at he'
        rw [he']
        exact he
    · rw [hmb]
      exact hS23.weak (by intro f; simp only [strM, ms_append, ms_cons, ms_nil]; omega)

end Go.Proofs.Ytonjaaljnjjjcaa

/- DiskPlays: acts, in plain Lean, and as both disks do them. Conditions: as each lemma says. -/
set_option linter.unusedVariables false
set_option linter.unusedSimpArgs false
namespace Go.Proofs.Ytonjaaljnjjjcaa
open Go Go.RowKit

/-- An act: what it says, and where its bytes and numbers lie. -/
structure Act where
  kind : Int
  name : ByteArray
  to : ByteArray
  sb : SV
  b : List UInt8
  n : Int
  wn : Int
  swb : SV
  wb : List Int

def encA (x : Act) : List Value := [.int .u8 x.kind, .string x.name, .string x.to, slV x.sb, .int .i64 x.n, .int .i64 x.wn, slV x.swb]
theorem encA_ok : EncOk encA 7 := ⟨fun _ => rfl, fun x u hu => by simp [encA] at hu; rcases hu with rfl | rfl | rfl | rfl | rfl | rfl | rfl <;> rfl, by decide⟩
theorem ti60 : TI 60 68 7 104 (.agg #[.int .u8 0, .string ByteArray.empty, .string ByteArray.empty, .slice none 0 0, .int .i64 0, .int .i64 0, .slice none 0 0]) := ⟨by kernel_rfl, by kernel_rfl, rfl, by decide⟩
theorem z68 : (Pr.info? 68).bind (·.zero) = some (.agg #[.int .u8 0, .string ByteArray.empty, .string ByteArray.empty, .slice none 0 0, .int .i64 0, .int .i64 0, .slice none 0 0]) := by kernel_rfl

/-- Its bytes and its numbers can be read. -/
structure ActOk (I : List Chunk) (x : Act) : Prop where
  b : RdB I x.sb x.b
  wb : RdS I 1 x.swb (x.wb.map intV)
  n : x.n ≤ 9223372036854775807

theorem ActOk.mono {I I' : List Chunk} {x : Act} (h : ActOk I x) (hI : ∀ c ∈ I, c ∈ I') : ActOk I' x := ⟨h.b.mono hI, h.wb.mono hI, h.n⟩

def actM (M : MDisk) (x : Act) : Int × MDisk :=
  if Int.tmod x.kind 13 = 0 then M.create x.name
  else if Int.tmod x.kind 13 = 4 then ((M.read x.name).1, (M.read x.name).2.2)
  else if Int.tmod x.kind 13 = 5 then M.sync x.name
  else if Int.tmod x.kind 13 = 6 then M.rename x.name x.to
  else if Int.tmod x.kind 13 = 7 then M.remove x.name
  else if Int.tmod x.kind 13 = 8 then M.syncNames
  else if Int.tmod x.kind 13 = 9 then (M.names.1, M.names.2.2)
  else if Int.tmod x.kind 13 = 10 then M.doom x.n
  else if Int.tmod x.kind 13 = 11 then (0, M.crash x.wn x.wb)
  else if Int.tmod x.kind 13 = 12 then M.grow x.n
  else M.append x.name x.b

theorem actM_good {M : MDisk} (h : M.Good) (x : Act) : (actM M x).2.Good := by
  unfold actM
  split
  · exact h.create _
  split
  · exact h.read _
  split
  · exact h.sync _
  split
  · exact h.rename _ _
  split
  · exact h.remove _
  split
  · exact h.syncNames
  split
  · exact h.names
  split
  · exact h.doom _
  split
  · exact h.crash _ _
  split
  · exact h.grow _
  · exact h.append _ _

theorem actM_small {M : MDisk} {n b : Nat} (hg : M.Good) (h : M.Small n b) {x : Act} (hx : x.n ≤ 9223372036854775807) : (actM M x).2.Small (n + 1) (b + x.b.length) := by
  unfold actM
  split
  · exact (h.create _).mono (by omega) (by omega)
  split
  · exact (h.read _).mono (by omega) (by omega)
  split
  · exact (h.sync _).mono (by omega) (by omega)
  split
  · exact (h.rename _ _).mono (by omega) (by omega)
  split
  · exact (h.remove _).mono (by omega) (by omega)
  split
  · exact (h.syncNames hg).mono (by omega) (by omega)
  split
  · exact h.names'.mono (by omega) (by omega)
  split
  · exact (h.doom hx).mono (by omega) (by omega)
  split
  · exact (h.crash _ _).mono (by omega) (by omega)
  split
  · exact (h.grow _).mono (by omega) (by omega)
  · exact (h.append _ _).mono (by omega) (by omega)

theorem small_tot {M : MDisk} {n b : Nat} (h : M.Small n b) (hn : n ≤ 1000) (hb : b ≤ 100000) : M.total ≤ 100000000 :=
  Nat.le_trans h.total (Nat.mul_le_mul hn hb)

theorem chunkIn {X : Chunk} {A L : List Chunk} {E w : World} (hS : Sep E w (X :: (A ++ L))) : Sep E w (A ++ (X :: L)) := hS.weak (by intro f; simp only [ms_append, ms_cons]; omega)

/-- does. -/
theorem k38 {E w : World} {L I : List Chunk} {M : MDisk} {D : DS} {d n b : Nat} (hS : Sep E w (D.chunks M d ++ L)) (hD : DRep D M I) (hI : ∀ c ∈ I, c ∈ L) (hg : M.Good) (hm : M.Small n b) (hn : n ≤ 1000) (hb : b ≤ 100000) {x : Act} (hx : ActOk L x) (hxb : x.b.length ≤ 100000) :
    Calls Pr 38 #[.pointer (some ⟨d, 0, none⟩), .agg (encA x).toArray] w fun e w' => ∃ (D' : DS) (C : List Chunk), e = .returned (.int .i64 (actM M x).1) ∧ DRep D' (actM M x).2 (C ++ I) ∧ Sep E w' (D'.chunks (actM M x).2 d ++ (C ++ L)) := by
  have hc := small_ch hm
  have hT := small_tot hm hn hb
  have hnl := small_now hg hm
  refine call38 ?_
  unfold ir38
  obtain ⟨a, w1, h1, hS1⟩ := hS.newVar (t := 68) (v := .agg (encA x).toArray)
  let X : Chunk := (a, .cells (encA x).toArray 68 (0, 0))
  have hS1 : Sep E w1 (X :: (D.chunks M d ++ L)) := hS1
  have hS2 := chunkIn hS1
  have hI2 : ∀ c ∈ I, c ∈ X :: L := fun c hc => List.mem_cons_of_mem _ (hI c hc)
  refine ⟨_, w1, h1, x.kind, hS1.load (b := a) (o := 0) List.mem_cons_self rfl (by kernel_rfl), by decide, ?_⟩
  have ln : At Pr w1 (loadVar 9 (Addr.add ⟨a, 0, none⟩ 1)) (.string x.name) := hS1.load (b := a) (o := 1) List.mem_cons_self rfl (by kernel_rfl)
  have fin : ∀ {D' : DS} {M' : MDisk} {C : List Chunk} {w' : World}, DRep D' M' (C ++ I) → Sep E w' (D'.chunks M' d ++ (C ++ (X :: L))) → ∃ C', DRep D' M' (C' ++ I) ∧ Sep E w' (D'.chunks M' d ++ (C' ++ L)) := fun hD hS => ⟨_ ++ [X], hD.mono fun c hc => by
      simp only [List.mem_append, List.mem_singleton] at hc ⊢
      rcases hc with hc | hc
      · exact .inl (.inl hc)
      · exact .inr hc, hS.weak (by intro f; simp only [ms_append, ms_cons, ms_nil]; omega)⟩
  refine brc_intro (fun h0 => ?_) (fun h0 => ?_)
  · have h0 : Int.tmod x.kind 13 = 0 := by simpa using h0
    have e : actM M x = M.create x.name := by unfold actM; rw [if_pos h0]
    rw [e]
    refine ⟨x.name, ln, (k32 hm.left (by omega) hS2 hD x.name).mono ?_⟩
    rintro _ w2 ⟨D', C, rfl, hD', hS'⟩
    obtain ⟨C', h1, h2⟩ := fin (hD'.right C) hS'
    exact ⟨_, rfl, D', C', rfl, h1, h2⟩
  have h0 : ¬ Int.tmod x.kind 13 = 0 := by simpa using h0
  refine brc_intro (fun h4 => ?_) (fun h4 => ?_)
  · have h4 : Int.tmod x.kind 13 = 4 := by simpa using h4
    have e : actM M x = ((M.read x.name).1, (M.read x.name).2.2) := by unfold actM; rw [if_neg h0, if_pos h4]
    rw [e]
    refine ⟨x.name, ln, (k28 hm.left hS2 hD hI2 x.name (fun f hf => by have := hm.each f hf; omega)).mono ?_⟩
    rintro _ w2 ⟨s, C, rfl, _, _, hD', hS'⟩
    obtain ⟨C', h1, h2⟩ := fin (hD'.right C) hS'
    exact ⟨s, _, rfl, D, C', rfl, h1, h2⟩
  have h4 : ¬ Int.tmod x.kind 13 = 4 := by simpa using h4
  refine brc_intro (fun h5 => ?_) (fun h5 => ?_)
  · have h5 : Int.tmod x.kind 13 = 5 := by simpa using h5
    have e : actM M x = M.sync x.name := by unfold actM; rw [if_neg h0, if_neg h4, if_pos h5]
    rw [e]
    refine ⟨x.name, ln, (k57 hm.left hS2 hD x.name).mono ?_⟩
    rintro _ w2 ⟨D', rfl, hD', hS'⟩
    obtain ⟨C', h1, h2⟩ := fin (C := []) hD' hS'
    exact ⟨_, rfl, D', C', rfl, h1, h2⟩
  have h5 : ¬ Int.tmod x.kind 13 = 5 := by simpa using h5
  refine brc_intro (fun h6 => ?_) (fun h6 => ?_)
  · have h6 : Int.tmod x.kind 13 = 6 := by simpa using h6
    have e : actM M x = M.rename x.name x.to := by unfold actM; rw [if_neg h0, if_neg h4, if_neg h5, if_pos h6]
    rw [e]
    refine ⟨x.name, ln, x.to, hS1.load (b := a) (o := 2) List.mem_cons_self rfl (by kernel_rfl), (k85 hm.left (by omega) hS2 hD x.name x.to).mono ?_⟩
    rintro _ w2 ⟨D', C, rfl, hD', hS'⟩
    obtain ⟨C', h1, h2⟩ := fin (hD'.right C) hS'
    exact ⟨_, rfl, D', C', rfl, h1, h2⟩
  have h6 : ¬ Int.tmod x.kind 13 = 6 := by simpa using h6
  refine brc_intro (fun h7 => ?_) (fun h7 => ?_)
  · have h7 : Int.tmod x.kind 13 = 7 := by simpa using h7
    have e : actM M x = M.remove x.name := by unfold actM; rw [if_neg h0, if_neg h4, if_neg h5, if_neg h6, if_pos h7]
    rw [e]
    refine ⟨x.name, ln, (k86 hm.left (by omega) hS2 hD x.name).mono ?_⟩
    rintro _ w2 ⟨D', C, rfl, hD', hS'⟩
    obtain ⟨C', h1, h2⟩ := fin (hD'.right C) hS'
    exact ⟨_, rfl, D', C', rfl, h1, h2⟩
  have h7 : ¬ Int.tmod x.kind 13 = 7 := by simpa using h7
  refine brc_intro (fun h8 => ?_) (fun h8 => ?_)
  · have h8 : Int.tmod x.kind 13 = 8 := by simpa using h8
    have e : actM M x = M.syncNames := by unfold actM; rw [if_neg h0, if_neg h4, if_neg h5, if_neg h6, if_neg h7, if_pos h8]
    rw [e]
    refine (k55 hm.left hS2 hD).mono ?_
    rintro _ w2 ⟨D', C, rfl, hD', hS'⟩
    obtain ⟨C', h1, h2⟩ := fin (hD'.right C) hS'
    exact ⟨_, rfl, D', C', rfl, h1, h2⟩
  have h8 : ¬ Int.tmod x.kind 13 = 8 := by simpa using h8
  refine brc_intro (fun h9 => ?_) (fun h9 => ?_)
  · have h9 : Int.tmod x.kind 13 = 9 := by simpa using h9
    have e : actM M x = (M.names.1, M.names.2.2) := by unfold actM; rw [if_neg h0, if_neg h4, if_neg h5, if_neg h6, if_neg h7, if_neg h8, if_pos h9]
    rw [e]
    refine (k50 hm.left hS2 hD (by omega)).mono ?_
    rintro _ w2 ⟨s, C, rfl, _, hD', hS'⟩
    obtain ⟨C', h1, h2⟩ := fin (hD'.right C) hS'
    exact ⟨s, _, rfl, D, C', rfl, h1, h2⟩
  have h9 : ¬ Int.tmod x.kind 13 = 9 := by simpa using h9
  refine brc_intro (fun h10 => ?_) (fun h10 => ?_)
  · have h10 : Int.tmod x.kind 13 = 10 := by simpa using h10
    have e : actM M x = M.doom x.n := by unfold actM; rw [if_neg h0, if_neg h4, if_neg h5, if_neg h6, if_neg h7, if_neg h8, if_neg h9, if_pos h10]
    rw [e]
    refine ⟨x.n, hS1.load (b := a) (o := 4) List.mem_cons_self rfl (by kernel_rfl), (k49 hS2 hD x.n).mono ?_⟩
    rintro _ w2 ⟨rfl, hD', hS'⟩
    obtain ⟨C', h1, h2⟩ := fin (C := []) hD' hS'
    exact ⟨_, rfl, D, C', rfl, h1, h2⟩
  have h10 : ¬ Int.tmod x.kind 13 = 10 := by simpa using h10
  refine brc_intro (fun h11 => ?_) (fun h11 => ?_)
  · have h11 : Int.tmod x.kind 13 = 11 := by simpa using h11
    have e : actM M x = (0, M.crash x.wn x.wb) := by unfold actM; rw [if_neg h0, if_neg h4, if_neg h5, if_neg h6, if_neg h7, if_neg h8, if_neg h9, if_neg h10, if_pos h11]
    rw [e]
    refine ⟨x.wn, x.swb, hS1.loadS (b := a) (o := 5) (n := 2) List.mem_cons_self (by kernel_rfl) (by kernel_rfl) rfl (by simp [encA]), (k45 hS2 hD hI2 hg hm (by omega) (by omega) x.wn (hx.wb.mono fun c hc => List.mem_cons_of_mem _ hc)).mono ?_⟩
    rintro _ w2 ⟨D', C, rfl, hD', hS'⟩
    obtain ⟨C', h1, h2⟩ := fin (hD'.right C) hS'
    exact ⟨_, rfl, D', C', rfl, h1, h2⟩
  have h11 : ¬ Int.tmod x.kind 13 = 11 := by simpa using h11
  refine brc_intro (fun h12 => ?_) (fun h12 => ?_)
  · have h12 : Int.tmod x.kind 13 = 12 := by simpa using h12
    have e : actM M x = M.grow x.n := by unfold actM; rw [if_neg h0, if_neg h4, if_neg h5, if_neg h6, if_neg h7, if_neg h8, if_neg h9, if_neg h10, if_neg h11, if_pos h12]
    rw [e]
    refine ⟨x.n, hS1.load (b := a) (o := 4) List.mem_cons_self rfl (by kernel_rfl), (k95 hS2 hD x.n).mono ?_⟩
    rintro _ w2 ⟨rfl, hD', hS'⟩
    obtain ⟨C', h1, h2⟩ := fin (C := []) hD' hS'
    exact ⟨_, rfl, D, C', rfl, h1, h2⟩
  have h12 : ¬ Int.tmod x.kind 13 = 12 := by simpa using h12
  have e : actM M x = M.append x.name x.b := by unfold actM; rw [if_neg h0, if_neg h4, if_neg h5, if_neg h6, if_neg h7, if_neg h8, if_neg h9, if_neg h10, if_neg h11, if_neg h12]
  rw [e]
  refine ⟨x.name, ln, x.sb, hS1.load (b := a) (o := 3) List.mem_cons_self rfl (by kernel_rfl), (k33 hm.left hS2 hD (by omega) (by omega) hI2 x.name (hx.b.mono fun c hc => List.mem_cons_of_mem _ hc) (by omega)).mono ?_⟩
  rintro _ w2 ⟨D', C, rfl, hD', hS'⟩
  obtain ⟨C', h1, h2⟩ := fin hD' hS'
  exact ⟨_, rfl, D', C', rfl, h1, h2⟩

/-- did. -/
theorem k39 {E w : World} {L I : List Chunk} {M : MDisk} {R : RS} {d n b : Nat} (hS : Sep E w (R.chunks M d ++ L)) (hR : RRep R M I) (hI : ∀ c ∈ I, c ∈ L) (hg : M.Good) (hm : M.Small n b) (hn : n ≤ 1000) (hb : b ≤ 100000) {x : Act} (hx : ActOk L x) (hxb : x.b.length ≤ 100000) :
    Calls Pr 39 #[.pointer (some ⟨d, 0, none⟩), .agg (encA x).toArray] w fun e w' => ∃ (R' : RS) (C : List Chunk), e = .returned (.int .i64 (actM M x).1) ∧ RRep R' (actM M x).2 (C ++ I) ∧ Sep E w' (R'.chunks (actM M x).2 d ++ (C ++ L)) := by
  refine call39 ?_
  unfold ir39
  obtain ⟨a, w1, h1, hS1⟩ := hS.newVar (t := 68) (v := .agg (encA x).toArray)
  let X : Chunk := (a, .cells (encA x).toArray 68 (0, 0))
  have hS1 : Sep E w1 (X :: (R.chunks M d ++ L)) := hS1
  have hS2 := chunkIn hS1
  have hI2 : ∀ c ∈ I, c ∈ X :: L := fun c hc => List.mem_cons_of_mem _ (hI c hc)
  refine ⟨_, w1, h1, x.kind, hS1.load (b := a) (o := 0) List.mem_cons_self rfl (by kernel_rfl), by decide, ?_⟩
  have ln : At Pr w1 (loadVar 9 (Addr.add ⟨a, 0, none⟩ 1)) (.string x.name) := hS1.load (b := a) (o := 1) List.mem_cons_self rfl (by kernel_rfl)
  have fin : ∀ {R' : RS} {M' : MDisk} {C : List Chunk} {w' : World}, RRep R' M' (C ++ I) → Sep E w' (R'.chunks M' d ++ (C ++ (X :: L))) → ∃ C', RRep R' M' (C' ++ I) ∧ Sep E w' (R'.chunks M' d ++ (C' ++ L)) := fun hD hS => ⟨_ ++ [X], hD.mono fun c hc => by
      simp only [List.mem_append, List.mem_singleton] at hc ⊢
      rcases hc with hc | hc
      · exact .inl (.inl hc)
      · exact .inr hc, hS.weak (by intro f; simp only [ms_append, ms_cons, ms_nil]; omega)⟩
  refine brc_intro (fun h0 => ?_) (fun h0 => ?_)
  · have h0 : Int.tmod x.kind 13 = 0 := by simpa using h0
    have e : actM M x = M.create x.name := by unfold actM; rw [if_pos h0]
    rw [e]
    refine ⟨x.name, ln, (k96 hS2 hR hI2 hg hm (by omega) x.name).mono ?_⟩
    rintro _ w2 ⟨R', C, rfl, hR', hS'⟩
    obtain ⟨C', h1, h2⟩ := fin hR' hS'
    exact ⟨_, rfl, R', C', rfl, h1, h2⟩
  have h0 : ¬ Int.tmod x.kind 13 = 0 := by simpa using h0
  refine brc_intro (fun h4 => ?_) (fun h4 => ?_)
  · have h4 : Int.tmod x.kind 13 = 4 := by simpa using h4
    have e : actM M x = ((M.read x.name).1, (M.read x.name).2.2) := by unfold actM; rw [if_neg h0, if_pos h4]
    rw [e]
    refine ⟨x.name, ln, (k64 hS2 hR hI2 hg hm (by omega) (by omega) x.name).mono ?_⟩
    rintro _ w2 ⟨s, C, R', rfl, _, hR', hS'⟩
    obtain ⟨C', h1, h2⟩ := fin (hR'.right C) hS'
    exact ⟨s, _, rfl, R', C', rfl, h1, h2⟩
  have h4 : ¬ Int.tmod x.kind 13 = 4 := by simpa using h4
  refine brc_intro (fun h5 => ?_) (fun h5 => ?_)
  · have h5 : Int.tmod x.kind 13 = 5 := by simpa using h5
    have e : actM M x = M.sync x.name := by unfold actM; rw [if_neg h0, if_neg h4, if_pos h5]
    rw [e]
    refine ⟨x.name, ln, (k97 hS2 hR hI2 hg hm (by omega) x.name).mono ?_⟩
    rintro _ w2 ⟨R', rfl, hR', hS'⟩
    obtain ⟨C', h1, h2⟩ := fin (C := []) hR' hS'
    exact ⟨_, rfl, R', C', rfl, h1, h2⟩
  have h5 : ¬ Int.tmod x.kind 13 = 5 := by simpa using h5
  refine brc_intro (fun h6 => ?_) (fun h6 => ?_)
  · have h6 : Int.tmod x.kind 13 = 6 := by simpa using h6
    have e : actM M x = M.rename x.name x.to := by unfold actM; rw [if_neg h0, if_neg h4, if_neg h5, if_pos h6]
    rw [e]
    refine ⟨x.name, ln, x.to, hS1.load (b := a) (o := 2) List.mem_cons_self rfl (by kernel_rfl), (k98 hS2 hR hI2 hg hm (by omega) x.name x.to).mono ?_⟩
    rintro _ w2 ⟨R', C, rfl, hR', hS'⟩
    obtain ⟨C', h1, h2⟩ := fin hR' hS'
    exact ⟨_, rfl, R', C', rfl, h1, h2⟩
  have h6 : ¬ Int.tmod x.kind 13 = 6 := by simpa using h6
  refine brc_intro (fun h7 => ?_) (fun h7 => ?_)
  · have h7 : Int.tmod x.kind 13 = 7 := by simpa using h7
    have e : actM M x = M.remove x.name := by unfold actM; rw [if_neg h0, if_neg h4, if_neg h5, if_neg h6, if_pos h7]
    rw [e]
    refine ⟨x.name, ln, (k99 hS2 hR hI2 hg hm (by omega) x.name).mono ?_⟩
    rintro _ w2 ⟨R', C, rfl, hR', hS'⟩
    obtain ⟨C', h1, h2⟩ := fin hR' hS'
    exact ⟨_, rfl, R', C', rfl, h1, h2⟩
  have h7 : ¬ Int.tmod x.kind 13 = 7 := by simpa using h7
  refine brc_intro (fun h8 => ?_) (fun h8 => ?_)
  · have h8 : Int.tmod x.kind 13 = 8 := by simpa using h8
    have e : actM M x = M.syncNames := by unfold actM; rw [if_neg h0, if_neg h4, if_neg h5, if_neg h6, if_neg h7, if_pos h8]
    rw [e]
    refine (k100 hS2 hR hI2 hg hm (by omega)).mono ?_
    rintro _ w2 ⟨R', C, rfl, hR', hS'⟩
    obtain ⟨C', h1, h2⟩ := fin hR' hS'
    exact ⟨_, rfl, R', C', rfl, h1, h2⟩
  have h8 : ¬ Int.tmod x.kind 13 = 8 := by simpa using h8
  refine brc_intro (fun h9 => ?_) (fun h9 => ?_)
  · have h9 : Int.tmod x.kind 13 = 9 := by simpa using h9
    have e : actM M x = (M.names.1, M.names.2.2) := by unfold actM; rw [if_neg h0, if_neg h4, if_neg h5, if_neg h6, if_neg h7, if_neg h8, if_pos h9]
    rw [e]
    refine (k101 hS2 hR hI2 hg hm (by omega)).mono ?_
    rintro _ w2 ⟨s, C, R', rfl, _, hR', hS'⟩
    obtain ⟨C', h1, h2⟩ := fin (hR'.right C) hS'
    exact ⟨s, _, rfl, R', C', rfl, h1, h2⟩
  have h9 : ¬ Int.tmod x.kind 13 = 9 := by simpa using h9
  refine brc_intro (fun h10 => ?_) (fun h10 => ?_)
  · have h10 : Int.tmod x.kind 13 = 10 := by simpa using h10
    have e : actM M x = M.doom x.n := by unfold actM; rw [if_neg h0, if_neg h4, if_neg h5, if_neg h6, if_neg h7, if_neg h8, if_neg h9, if_pos h10]
    rw [e]
    refine ⟨x.n, hS1.load (b := a) (o := 4) List.mem_cons_self rfl (by kernel_rfl), (k59 hS2 hR x.n).mono ?_⟩
    rintro _ w2 ⟨R', rfl, hR', hS'⟩
    obtain ⟨C', h1, h2⟩ := fin (C := []) hR' hS'
    exact ⟨_, rfl, R', C', rfl, h1, h2⟩
  have h10 : ¬ Int.tmod x.kind 13 = 10 := by simpa using h10
  refine brc_intro (fun h11 => ?_) (fun h11 => ?_)
  · have h11 : Int.tmod x.kind 13 = 11 := by simpa using h11
    have e : actM M x = (0, M.crash x.wn x.wb) := by unfold actM; rw [if_neg h0, if_neg h4, if_neg h5, if_neg h6, if_neg h7, if_neg h8, if_neg h9, if_neg h10, if_pos h11]
    rw [e]
    refine ⟨x.wn, x.swb, hS1.loadS (b := a) (o := 5) (n := 2) List.mem_cons_self (by kernel_rfl) (by kernel_rfl) rfl (by simp [encA]), (k46 hS2 hR hI2 hg hm (by omega) (by omega) x.wn (hx.wb.mono fun c hc => List.mem_cons_of_mem _ hc)).mono ?_⟩
    rintro _ w2 ⟨R', C, rfl, hR', hS'⟩
    obtain ⟨C', h1, h2⟩ := fin hR' hS'
    exact ⟨_, rfl, R', C', rfl, h1, h2⟩
  have h11 : ¬ Int.tmod x.kind 13 = 11 := by simpa using h11
  refine brc_intro (fun h12 => ?_) (fun h12 => ?_)
  · have h12 : Int.tmod x.kind 13 = 12 := by simpa using h12
    have e : actM M x = M.grow x.n := by unfold actM; rw [if_neg h0, if_neg h4, if_neg h5, if_neg h6, if_neg h7, if_neg h8, if_neg h9, if_neg h10, if_neg h11, if_pos h12]
    rw [e]
    refine ⟨x.n, hS1.load (b := a) (o := 4) List.mem_cons_self rfl (by kernel_rfl), (k102 hS2 hR x.n).mono ?_⟩
    rintro _ w2 ⟨R', rfl, hR', hS'⟩
    obtain ⟨C', h1, h2⟩ := fin (C := []) hR' hS'
    exact ⟨_, rfl, R', C', rfl, h1, h2⟩
  have h12 : ¬ Int.tmod x.kind 13 = 12 := by simpa using h12
  have e : actM M x = M.append x.name x.b := by unfold actM; rw [if_neg h0, if_neg h4, if_neg h5, if_neg h6, if_neg h7, if_neg h8, if_neg h9, if_neg h10, if_neg h11, if_neg h12]
  rw [e]
  refine ⟨x.name, ln, x.sb, hS1.load (b := a) (o := 3) List.mem_cons_self rfl (by kernel_rfl), (k103 hS2 hR hI2 hg hm (by omega) (by omega) x.name (hx.b.mono fun c hc => List.mem_cons_of_mem _ hc) (by omega)).mono ?_⟩
  rintro _ w2 ⟨R', C, rfl, hR', hS'⟩
  obtain ⟨C', h1, h2⟩ := fin hR' hS'
  exact ⟨_, rfl, R', C', rfl, h1, h2⟩

end Go.Proofs.Ytonjaaljnjjjcaa

/- DiskPlays: the walk. Conditions: as each lemma says. -/
set_option linter.unusedVariables false
set_option linter.unusedSimpArgs false
namespace Go.Proofs.Ytonjaaljnjjjcaa
open Go Go.RowKit

theorem u26' : Pr.underlying 26 = some (.slice 5) := by kernel_rfl

/-- texts, of two alike. -/
theorem k107 {E w : World} {L : List Chunk} {s t : SV} {ks : List ByteArray} (hS : Sep E w L) (hs : RdS L 1 s (ks.flatMap encK)) (ht : RdS L 1 t (ks.flatMap encK)) (hn : ks.length ≤ 1000000000000) :
    Calls Pr 107 #[.slice s.a s.len s.cap, .slice t.a t.len t.cap] w fun e w' => e = .returned (.bool true) ∧ Sep E w' L := by
  refine call107 ?_
  unfold ir107
  have h1 := RdG.size encK_ok hs
  have h2 := RdG.size encK_ok ht
  refine brc_false (by rw [h1, h2]; simp) ?_
  refine ⟨fun n σ w1 => ∃ j : Nat, j ≤ ks.length ∧ n = ks.length - j ∧ σ = ((j : Int), ()) ∧ Sep E w1 L, ks.length, ⟨0, Nat.zero_le _, rfl, rfl, hS⟩, ?_⟩
  rintro n σ w1 ⟨j, hj, rfl, rfl, hS1⟩ _
  dsimp only
  refine brc_intro (fun h => ?_) (fun h => ?_)
  · have h : j < ks.length := by simp at h; omega
    have hx : ks[j]? = some ks[j] := List.getElem?_eq_getElem h
    generalize ks[j] = k at hx
    obtain ⟨a, ha, _, hat⟩ := RdG.at_ encK_ok hs hx
    obtain ⟨a', ha', _, hat'⟩ := RdG.at_ encK_ok ht hx
    have l1 : ∀ w, Sep E w L → At Pr w (loadVar 9 (a.add (j * 1))) (.string k) := fun w hw => by
      have := hat (j := 0) (v := .string k) (t := 9) rfl (by kernel_rfl) hw (fun c hc => hc)
      rwa [addA, Nat.add_zero] at this
    have l2 : ∀ w, Sep E w L → At Pr w (loadVar 9 (a'.add (j * 1))) (.string k) := fun w hw => by
      have := hat' (j := 0) (v := .string k) (t := 9) rfl (by kernel_rfl) hw (fun c hc => hc)
      rwa [addA, Nat.add_zero] at this
    refine ⟨fun w => Sep E w L, hS1.drew, ⟨by omega, by omega⟩, ?_⟩
    rw [ha]
    refine ⟨k, l1, ⟨by omega, by omega⟩, ?_⟩
    rw [ha']
    refine ⟨k, l2, brc_false (by rw [ba_eq_toList]; simp) ⟨ks.length - (j + 1), by omega, j + 1, by omega, rfl, by rw [w64 (by omega) (by omega)]; rfl, hS1.drew⟩⟩
  · exact ⟨rfl, hS1⟩

/-- few. -/
theorem k37 {E w : World} {L I : List Chunk} {s : SV} {l : List Act} (hS : Sep E w L) (hs : RdS I 7 s (l.flatMap encA)) (hI : ∀ c ∈ I, c ∈ L) (hn : l.length ≤ 9223372036854775807) (hl : ∀ x ∈ l, ActOk I x) :
    Calls Pr 37 #[.slice s.a s.len s.cap] w fun e w' => ∃ (s' : SV) (l' : List Act) (C G : List Chunk), e = .returned (.slice s'.a s'.len s'.cap) ∧ Own 68 7 s' (l'.flatMap encA) C ∧ l'.length ≤ 100 ∧ (∀ x ∈ l', ActOk I x ∧ x.b.length ≤ 50) ∧ Sep E w' (C ++ (G ++ L)) := by
  refine call37 ?_
  unfold ir37
  have hsz := RdG.size encA_ok hs
  refine ⟨fun n σ w1 => ∃ (j : Nat) (l' : List Act) (C G : List Chunk), j ≤ l.length ∧ n = l.length - j ∧ σ.1 = (j : Int) ∧ Own 68 7 σ.2.1 (l'.flatMap encA) C ∧ l'.length ≤ 100 ∧ l'.length ≤ j ∧ (∀ x ∈ l', ActOk I x ∧ x.b.length ≤ 50) ∧ Sep E w1 (C ++ (G ++ L)), l.length, ⟨0, [], [], [], Nat.zero_le _, rfl, rfl, Own.nil _ _, Nat.zero_le _, Nat.zero_le _, (fun x hx => by cases hx), hS⟩, ?_⟩
  rintro n ⟨jj, s', u⟩ w1 ⟨j, l', C, G, hj, rfl, hjj, ho, hl1, hl2, hl3, hS1⟩ _
  dsimp only at hjj ho ⊢
  subst hjj
  refine brc_intro (fun h => ?_) (fun h => ?_)
  · have h : j < l.length := by simp at h; omega
    have hx : l[j]? = some l[j] := List.getElem?_eq_getElem h
    have hxm : l[j] ∈ l := List.getElem_mem h
    generalize l[j] = x at hx hxm
    have hxo := hl x hxm
    obtain ⟨a, ha, hat0, _⟩ := RdG.at_ encA_ok hs hx
    rw [ha]
    refine ⟨⟨by omega, by omega⟩, x.kind, x.name, x.to, x.sb, x.n, x.wn, x.swb, hat0 (t := 68) (by kernel_rfl) (by kernel_rfl) hS1 (fun c hc => by simp [hI c hc]), ?_⟩
    obtain ⟨q, w2, h2, hS2⟩ := hS1.alloc (t := 68) z68
    refine ⟨_, w2, h2, ?_⟩
    obtain ⟨w3, h3, hS3⟩ := Sep.store (cs := [.int .u8 0, .string ByteArray.empty, .string ByteArray.empty, .slice none 0 0, .int .i64 0, .int .i64 0, .slice none 0 0]) (o := 0) (n := 7) (v := .agg (encA x).toArray) (t := 68) hS2 (by kernel_rfl) rfl (by simp [encA, Value.cells]) (by simp [encA, Value.cells, Value.oneCell'])
    let X : Chunk := (q, .cells (encA x).toArray 68 (0, 0))
    have hS3 : Sep E w3 (X :: (C ++ (G ++ L))) := hS3
    refine ⟨w3, h3, ?_⟩
    have skip : ∃ n', n' < l.length - j ∧ ∃ (j' : Nat) (l'' : List Act) (C G : List Chunk), j' ≤ l.length ∧ n' = l.length - j' ∧ IntKind.wrap .i64 ((j : Int) + 1) = (j' : Int) ∧ Own 68 7 s' (l''.flatMap encA) C ∧ l''.length ≤ 100 ∧ l''.length ≤ j' ∧ (∀ x ∈ l'', ActOk I x ∧ x.b.length ≤ 50) ∧ Sep E w3 (C ++ (G ++ L)) :=
      ⟨l.length - (j + 1), by omega, j + 1, l', C, X :: G, by omega, rfl, by rw [w64 (by omega) (by omega)]; rfl, ho, hl1, by omega, hl3, hS3.weak (by intro f; simp only [ms_append, ms_cons, ms_nil]; omega)⟩
    refine brc_intro (fun h4 => ?_) (fun _ => skip)
    have h4 : (j : Int) < 100 := by simpa using h4
    refine ⟨x.sb, hS3.load (b := q) (o := 3) List.mem_cons_self rfl (by kernel_rfl), brc_intro (fun h5 => ?_) (fun _ => skip)⟩
    have h5 : ((x.sb.len : Nat) : Int) ≤ 50 := by simpa using h5
    have hbl := hxo.b.size
    refine ⟨x.name, hS3.load (b := q) (o := 1) List.mem_cons_self rfl (by kernel_rfl), brc_intro (fun _ => ?_) (fun _ => skip)⟩
    refine ⟨x.to, hS3.load (b := q) (o := 2) List.mem_cons_self rfl (by kernel_rfl), brc_intro (fun _ => ?_) (fun _ => skip)⟩
    refine ⟨x.swb, by rw [addA]; exact hS3.load (b := q) (o := 6) List.mem_cons_self rfl (by kernel_rfl), brc_intro (fun _ => ?_) (fun _ => skip)⟩
    refine ⟨x.kind, x.name, x.to, x.sb, x.n, x.wn, x.swb, hS3.loadS (b := q) (o := 0) (n := 7) List.mem_cons_self (by kernel_rfl) (by kernel_rfl) rfl (by simp [encA]), ?_⟩
    have hS3' : Sep E w3 (C ++ (X :: (G ++ L))) := hS3.weak (by intro f; simp only [ms_append, ms_cons, ms_nil]; omega)
    obtain ⟨s4, w4, h6, s5, w5, C', G', h7, ho7, hS7⟩ := Sep.pushG encA_ok ti60 (x := x) (v := .agg (encA x).toArray) (ty := 60) hS3' ho (by kernel_rfl) (by omega) (by unfold maxLen; omega)
    refine ⟨s4, w4, h6, s5, w5, h7, l.length - (j + 1), by omega, j + 1, l' ++ [x], C', G' ++ (X :: G), by omega, rfl, by rw [w64 (by omega) (by omega)]; rfl, ho7, by simp; omega, by simp; omega, fun y hy => ?_, hS7.weak (by intro f; simp only [ms_append, ms_cons, ms_nil]; omega)⟩
    rcases List.mem_append.1 hy with hy | hy
    · exact hl3 y hy
    · rw [List.mem_singleton] at hy
      subst hy
      exact ⟨hxo, by omega⟩
  · exact ⟨s', l', C, G, rfl, ho, hl1, hl3, hS1⟩

/-- same. -/
theorem k43 {E w : World} {L I : List Chunk} {M : MDisk} {D : DS} {R : RS} {d r n b : Nat} (hS : Sep E w (D.chunks M d ++ (R.chunks M r ++ L))) (hD : DRep D M I) (hR : RRep R M I) (hI : ∀ c ∈ I, c ∈ L) (hg : M.Good) (hm : M.Small n b) (hn : n ≤ 1000) (hb : b ≤ 100000) :
    Calls Pr 43 #[.pointer (some ⟨d, 0, none⟩), .pointer (some ⟨r, 0, none⟩)] w fun e w' => e = .returned (.bool true) ∧ Sep E w' L := by
  refine call43 ?_
  unfold ir43
  have hnl := small_now hg hm
  refine (k50 hm.left hS hD (by omega)).mono ?_
  rintro _ w1 ⟨s1, C1, rfl, hr1, hD1, hS1⟩
  refine ⟨s1, _, rfl, ?_⟩
  have hS1' : Sep E w1 (R.chunks M r ++ (D.chunks M.names.2.2 d ++ (C1 ++ L))) := hS1.weak (by intro f; simp only [ms_append, ms_cons, ms_nil]; omega)
  refine (k101 hS1' hR (fun c hc => by simp [hI c hc]) hg hm (by omega)).mono ?_
  rintro _ w2 ⟨s2, C2, R2, rfl, hr2, hR2, hS2⟩
  refine ⟨s2, _, rfl, ?_⟩
  have hg1 := hg.names
  have hm1 := hm.names'
  have hkl : M.names.2.1.length ≤ 1000000000000 := by
    unfold MDisk.names
    split
    · exact Nat.zero_le _
    · have := small_now hg.ready hm.ready
      rw [List.length_map]
      omega
  generalize hM1 : M.names.2.2 = M1 at *
  generalize M.names.2.1 = ks at *
  refine (k107 hS2 (hr1.mono fun c hc => by simp [hc]) (hr2.mono fun c hc => by simp [hc]) hkl).mono ?_
  rintro _ w3 ⟨rfl, hS3⟩
  refine ⟨_, rfl, brc_false rfl (brc_false (by simp) ?_)⟩
  have hS3' : Sep E w3 (D.chunks M1 d ++ (R2.chunks M1 r ++ (C2 ++ (C1 ++ L)))) := hS3.weak (by intro f; simp only [ms_append, ms_cons, ms_nil]; omega)
  have hT := small_tot hm1 hn hb
  have hcc := small_ch hm1
  refine (k40 hS3' hD1 (by omega) (by omega)).mono ?_
  rintro _ w4 ⟨C4, rfl, hS4⟩
  refine ⟨_, rfl, ?_⟩
  have hS4' : Sep E w4 (R2.chunks M1 r ++ (D.chunks M1 d ++ (C2 ++ (C1 ++ (C4 ++ L))))) := hS4.weak (by intro f; simp only [ms_append, ms_cons, ms_nil]; omega)
  refine (k41 hS4' hR2 (fun c hc => by simp [hI c hc]) hg1 hm1 (by omega) (by omega)).mono ?_
  rintro _ w5 ⟨C5, rfl, hS5⟩
  refine ⟨_, rfl, brc_false (by simp) ?_⟩
  have hks := RdG.size encK_ok hr2
  have hS5' : Sep E w5 (D.chunks M1 d ++ (R2.chunks M1 r ++ (C2 ++ ((C5 ++ (C1 ++ C4)) ++ L)))) := hS5.weak (by intro f; simp only [ms_append, ms_cons, ms_nil]; omega)
  clear hS hS1 hS1' hS2 hS3 hS3' hS4 hS4' hS5
  refine ⟨fun k σ w6 => ∃ (j : Nat) (M' : MDisk) (R' : RS) (G : List Chunk), j ≤ ks.length ∧ k = ks.length - j ∧ σ = ((j : Int), ()) ∧ M'.Good ∧ M'.Small n b ∧ DRep D M' I ∧ RRep R' M' I ∧ Sep E w6 (D.chunks M' d ++ (R'.chunks M' r ++ (C2 ++ (G ++ L)))), ks.length, ⟨0, M1, R2, _, Nat.zero_le _, rfl, rfl, hg1, hm1, hD1, hR2, hS5'⟩, ?_⟩
  clear hM1 hS5' hg1 hm1 hD1 hR2 hT hcc
  rintro k σ w6 ⟨j, M', R', G, hj, rfl, rfl, hg', hm', hD', hR', hS6⟩ _
  dsimp only
  refine brc_intro (fun h => ?_) (fun h => ?_)
  · have h : j < ks.length := by simp at h; omega
    have hx : ks[j]? = some ks[j] := List.getElem?_eq_getElem h
    generalize ks[j] = x at hx
    obtain ⟨a, ha, _, hat⟩ := RdG.at_ encK_ok hr2 hx
    rw [ha]
    have l1 : At Pr w6 (loadVar 9 (a.add (j * 1))) (.string x) := by
      have := hat (j := 0) (v := .string x) (t := 9) rfl (by kernel_rfl) hS6 (fun c hc => by simp [hc])
      rwa [addA, Nat.add_zero] at this
    refine ⟨⟨by omega, by omega⟩, x, l1, ?_⟩
    refine (k28 hm'.left hS6 hD' (fun c hc => by simp [hI c hc]) x (fun f hf => by have := hm'.each f hf; omega)).mono ?_
    rintro _ w7 ⟨s3, C7, rfl, hr3, _, hD7, hS7⟩
    refine ⟨s3, _, rfl, ?_⟩
    have hS7' : Sep E w7 (R'.chunks M' r ++ (D.chunks (M'.read x).2.2 d ++ (C7 ++ (C2 ++ (G ++ L))))) := hS7.weak (by intro f; simp only [ms_append, ms_cons, ms_nil]; omega)
    refine (k64 hS7' hR' (fun c hc => by simp [hI c hc]) hg' hm' (by omega) (by omega) x).mono ?_
    rintro _ w8 ⟨s4, C8, R8, rfl, hr4, hR8, hS8⟩
    refine ⟨s4, _, rfl, _, hS8.toStr hr3 (fun c hc => by simp [hc]) u26' u9, _, hS8.toStr hr4 (fun c hc => by simp [hc]) u26' u9, brc_false (by rw [ba_eq_toList]; simp) (brc_false (by simp) ?_)⟩
    exact ⟨ks.length - (j + 1), by omega, j + 1, (M'.read x).2.2, R8, C8 ++ (C7 ++ G), by omega, rfl, by rw [w64 (by omega) (by omega)]; rfl, hg'.read x, hm'.read x, hD7, hR8, hS8.weak (by intro f; simp only [ms_append, ms_cons, ms_nil]; omega)⟩
  · exact ⟨rfl, hS6.weak (by intro f; simp only [ms_append, ms_cons, ms_nil]; omega)⟩

end Go.Proofs.Ytonjaaljnjjjcaa

/- What the arguments are: slices, bytes, lists of bytes. Conditions: as each lemma says. -/
set_option linter.unusedVariables false
set_option linter.unusedSimpArgs false
namespace Go.Proofs.Ytonjaaljnjjjcaa
open Go Go.RowKit

section
variable {H : Type} {enc : TypeId × Value → H} {w : World} {fuel : Nat} {x : DataW H × List MemPlace}

noncomputable abbrev trod0 (enc : TypeId × Value → H) (w : World) (fuel : Nat) (t : TypeId) (cs : List Value) : Option (DataW H × List MemPlace) := DataW.trod enc Pr w 0 (fun _ => true) true fuel t cs

theorem whole_mem {w : World} {b : Nat} {o : Obj} (h : w.heap[b]? = some o) : (b, o) ∈ whole w := by
  have hb := (Array.getElem?_eq_some_iff.1 h).1
  refine List.mem_map.2 ⟨b, List.mem_range.2 hb, ?_⟩
  have : w.heap.getD b default = o := by
    rw [Array.getD_eq_getD_getElem?, h]
    rfl
  rw [this]

theorem add_add (a : Addr) (m n : Nat) : (a.add m).add n = a.add (m + n) := by
  unfold Addr.add
  by_cases hm : m = 0
  · subst hm; simp
  · by_cases hn : n = 0
    · subst hn; simp [hm]
    · have : ¬ m + n = 0 := by omega
      simp [hm, hn, Nat.add_assoc]

theorem mapM_get {α β : Type} {f : α → Option β} : ∀ {l : List α} {m : List β}, l.mapM f = some m → m.length = l.length ∧ ∀ (i : Nat) (a : α), l[i]? = some a → m[i]? = f a
  | [], m, h => by
    simp at h
    subst h
    simp
  | x :: l, m, h => by
    rw [List.mapM_cons] at h
    cases hx : f x with
    | none => simp [hx] at h
    | some y =>
      cases hl : l.mapM f with
      | none => simp [hx, hl] at h
      | some m' =>
        simp [hx, hl] at h
        subst h
        obtain ⟨h1, h2⟩ := mapM_get hl
        refine ⟨by simp [h1], fun i a hi => ?_⟩
        cases i with
        | zero => simp at hi; subst hi; simp [hx]
        | succ i => simpa using h2 i a (by simpa using hi)

theorem cells_get {a : Addr} {n : Nat} {cs : List Value} (h : w.cells? 0 a n = some cs) : cs.length = n ∧ ∀ j, j < n → w.cell? (a.add j) = cs[j]? := by
  unfold World.cells? at h
  rw [if_pos (Nat.zero_le _)] at h
  obtain ⟨h1, h2⟩ := mapM_get h
  exact ⟨by simpa using h1, fun j hj => (h2 j j (by simp [hj])).symm⟩

theorem cell_at {a : Addr} {v : Value} (h : w.cell? a = some v) : a.spot = none ∧ ∃ cs T fr, w.heap[a.block]? = some (.cells cs T fr) ∧ cs[a.off]? = some v := by
  unfold World.cell? at h
  split at h
  · rename_i cs T fr hc
    split at h
    · cases h
    · rename_i hs
      exact ⟨by simpa using hs, cs, T, fr, hc, h⟩
  · cases h

/-- A slice among the arguments. -/
theorem arg_slice {t e sz : TypeId} (ht : Pr.underlying t = some (.slice e)) (hsz : Pr.cellsOf e = sz) (h0 : 0 < sz) {v : Value} (h : trod0 enc w fuel t [v] = some x) :
    ∃ (s : SV) (xs : List Value), v = .slice s.a s.len s.cap ∧ RdS (whole w) sz s xs ∧ s.len ≤ maxLen ∧ ∀ i, i < s.len → ∃ n y, trod0 enc w n e ((xs.drop (i * sz)).take sz) = some y := by
  rcases DataW.trod_slice ht h with ⟨hc, _⟩ | ⟨a, len, cap, elems, rest, n, rfl, hc, _, _, h1, h2, h3, h4, _, _⟩
  · injection hc with hc
    subst hc
    exact ⟨SV.nil, [], rfl, RdS.none _ _, Nat.zero_le _, fun i hi => absurd hi (Nat.not_lt_zero i)⟩
  · injection hc with hc
    subst hc
    subst hsz
    generalize hz : Pr.cellsOf e = sz at *
    -- each element's cells
    have hel : ∀ i, i < len → ∃ cs y, w.cells? 0 (a.add (i * sz)) sz = some cs ∧ trod0 enc w n e cs = some y := fun i hi => by
      have := h4 i hi
      have hi' : i < elems.length := by omega
      rw [List.getElem?_eq_getElem hi'] at this
      obtain ⟨cs, hcs, ht⟩ := Option.bind_eq_some_iff.1 this
      exact ⟨cs, _, hcs, ht⟩
    let xs : List Value := (List.range (len * sz)).map fun j => (w.cell? (a.add j)).getD undef
    have hcell : ∀ j, j < len * sz → ∃ v, w.cell? (a.add j) = some v ∧ xs[j]? = some v := fun j hj => by
      have hi : j / sz < len := (Nat.div_lt_iff_lt_mul h0).2 hj
      obtain ⟨cs, y, hcs, _⟩ := hel _ hi
      obtain ⟨hl, hg⟩ := cells_get hcs
      have hm := Nat.mod_lt j h0
      have := hg (j % sz) hm
      rw [add_add, Nat.mul_comm, Nat.div_add_mod, List.getElem?_eq_getElem (by omega)] at this
      refine ⟨_, this, ?_⟩
      simp [xs, hj, this]
    refine ⟨⟨some a, len, cap⟩, xs, rfl, ⟨by simp [xs], h1, (fun h => by cases h), fun b hb => ?_⟩, Nat.le_trans h1 h2, fun i hi => ?_⟩
    · injection hb with hb
      subst hb
      rcases Nat.eq_zero_or_pos len with hl0 | hl0
      · exact .inl hl0
      · refine .inr ?_
        have hpos : 0 < len * sz := Nat.mul_pos hl0 h0
        obtain ⟨v0, hv0, _⟩ := hcell 0 hpos
        have ha0 : a.add 0 = a := by simp [Addr.add]
        rw [ha0] at hv0
        obtain ⟨hsp, cs, T, fr, hb, _⟩ := cell_at hv0
        refine ⟨hsp, cs, T, fr, whole_mem hb, fun j u hu => ?_⟩
        have hj : j < len * sz := by
          have := (List.getElem?_eq_some_iff.1 hu).1
          simpa [xs] using this
        obtain ⟨v, hv, hxv⟩ := hcell j hj
        have : u = v := Option.some.inj (hu.symm.trans hxv)
        subst this
        obtain ⟨bb, bo, bs⟩ := a
        simp only at hsp
        subst hsp
        rw [addr_add] at hv
        obtain ⟨_, cs', T', fr', hb', hv'⟩ := cell_at hv
        simp only at hb' hv' hb ⊢
        have : Obj.cells cs T fr = Obj.cells cs' T' fr' := Option.some.inj (hb.symm.trans hb')
        have h1 := (Obj.cells.inj this).1
        rw [h1]
        exact hv'
    · have hi : i < len := hi
      obtain ⟨cs, y, hcs, hy⟩ := hel i hi
      obtain ⟨hl, hg⟩ := cells_get hcs
      refine ⟨n, y, ?_⟩
      have : (xs.drop (i * sz)).take sz = cs := by
        apply List.ext_getElem?
        intro j
        rw [List.getElem?_take]
        split
        · rename_i hj
          rw [List.getElem?_drop]
          have hlt : i * sz + j < len * sz := by
            have : (i + 1) * sz ≤ len * sz := Nat.mul_le_mul_right _ (by omega)
            rw [Nat.succ_mul] at this
            omega
          obtain ⟨v, hv, hxv⟩ := hcell _ hlt
          rw [hxv, ← hv, ← add_add]
          exact hg j hj
        · rename_i hj
          exact (List.getElem?_eq_none (by omega)).symm
      rw [this]
      exact hy

/-- A list out of what stands at each place. -/
theorem list_of {α β : Type} {R : α → β → Prop} : ∀ (l : List α), (∀ i (h : i < l.length), ∃ b, R l[i] b) → ∃ m : List β, m.length = l.length ∧ ∀ i (h : i < l.length) (h' : i < m.length), R l[i] m[i]
  | [], _ => ⟨[], rfl, fun i h => absurd h (Nat.not_lt_zero i)⟩
  | a :: l, h => by
    obtain ⟨b, hb⟩ := h 0 (by simp)
    obtain ⟨m, h1, h2⟩ := list_of l fun i hi => by
      have := h (i + 1) (by simpa using hi)
      simpa using this
    refine ⟨b :: m, by simp [h1], fun i hi hi' => ?_⟩
    cases i with
    | zero => simpa using hb
    | succ i => simpa using h2 i (by simpa using hi) (by simpa using hi')

theorem u5 : Pr.underlying 5 = some (.int .u8) := by kernel_rfl
theorem u26 : Pr.underlying 26 = some (.slice 5) := by kernel_rfl
theorem u22 : Pr.underlying 22 = some (.slice 26) := by kernel_rfl
theorem c5 : Pr.cellsOf 5 = 1 := by kernel_rfl
theorem c26 : Pr.cellsOf 26 = 1 := by kernel_rfl

/-- Bytes among the arguments. -/
theorem arg_bytes {v : Value} (h : trod0 enc w fuel 26 [v] = some x) : ∃ (s : SV) (l : List UInt8), v = .slice s.a s.len s.cap ∧ RdB (whole w) s l ∧ l.length ≤ maxLen := by
  obtain ⟨s, xs, rfl, hr, hm, hel⟩ := arg_slice u26 c5 (by decide) h
  have hlen := hr.len1
  obtain ⟨l, h1, h2⟩ := list_of (R := fun v (b : UInt8) => v = byteV b) xs fun i hi => by
    obtain ⟨n, y, hy⟩ := hel i (by omega)
    have e : (xs.drop (i * 1)).take 1 = [xs[i]] := by
      rw [Nat.mul_one, List.drop_eq_getElem_cons hi]
      rfl
    rw [e] at hy
    obtain ⟨m, hm, _, hw⟩ := DataW.trod_int u5 hy
    injection hm with hm
    have hlo : (0 : Int) ≤ m ∧ m ≤ 255 := by
      simp only [Lit.wf, Bool.and_eq_true, decide_eq_true_eq] at hw
      exact hw
    refine ⟨UInt8.ofNat m.toNat, ?_⟩
    rw [hm]
    unfold byteV
    rw [UInt8.toNat_ofNat']
    congr 1
    omega
  have : xs = l.map byteV := by
    apply List.ext_getElem
    · simp [h1]
    · intro i hi hi'
      rw [List.getElem_map]
      exact h2 i hi (by omega)
  subst this
  refine ⟨s, l, rfl, hr, ?_⟩
  rw [List.length_map] at hlen
  omega

/-- Lists of bytes among the arguments. -/
theorem arg_list {v : Value} (h : trod0 enc w fuel 22 [v] = some x) : ∃ (s : SV) (ls : List (List UInt8)), v = .slice s.a s.len s.cap ∧ RdL (whole w) s ls ∧ ls.length ≤ maxLen := by
  obtain ⟨s, xs, rfl, hr, hm, hel⟩ := arg_slice u22 c26 (by decide) h
  have hlen := hr.len1
  obtain ⟨l, h1, h2⟩ := list_of (R := fun v (b : SV × List UInt8) => v = slV b.1 ∧ RdB (whole w) b.1 b.2) xs fun i hi => by
    obtain ⟨n, y, hy⟩ := hel i (by omega)
    have e : (xs.drop (i * 1)).take 1 = [xs[i]] := by
      rw [Nat.mul_one, List.drop_eq_getElem_cons hi]
      rfl
    rw [e] at hy
    obtain ⟨s, l, h1, h2, _⟩ := arg_bytes hy
    exact ⟨(s, l), h1, h2⟩
  have : xs = (l.map (·.1)).map slV := by
    apply List.ext_getElem
    · simp [h1]
    · intro i hi hi'
      rw [List.getElem_map, List.getElem_map]
      exact (h2 i hi (by omega)).1
  subst this
  refine ⟨s, l.map (·.2), rfl, ⟨l.map (·.1), hr, by simp, fun i s' l' hs hl => ?_⟩, ?_⟩
  · rw [List.getElem?_map, Option.map_eq_some_iff] at hs hl
    obtain ⟨p, hp, rfl⟩ := hs
    obtain ⟨q, hq, rfl⟩ := hl
    have : p = q := Option.some.inj (hp.symm.trans hq)
    subst this
    obtain ⟨hi, rfl⟩ := List.getElem?_eq_some_iff.1 hp
    exact (h2 i (by simpa using hi) hi).2
  · have := hr.len1
    simp only [List.length_map] at this ⊢
    omega
end

end Go.Proofs.Ytonjaaljnjjjcaa

/- What the arguments are: structs, numbers, acts. Conditions: as each lemma says. -/
set_option linter.unusedVariables false
set_option linter.unusedSimpArgs false
namespace Go.Proofs.Ytonjaaljnjjjcaa
open Go Go.RowKit

noncomputable def flds (t : TypeId) : Array Field := match Pr.underlying t with
  | some (.struct fs) => fs
  | _ => #[]

section
variable {H : Type} {enc : TypeId × Value → H} {w : World} {fuel : Nat} {x : DataW H × List MemPlace}

/-- A field of a struct among the arguments. -/
theorem arg_field {t ty : TypeId} {i off sz : Nat} {cs : List Value} (hu : Pr.underlying t = some (.struct (flds t))) (hf : ((flds t)[i]?.map fun f => (f.type, f.offset)) = some (ty, off)) (hc : Pr.cellsOf ty = sz) (h : trod0 enc w fuel t cs = some x) :
    cs.length = Pr.cellsOf t ∧ ∃ n y, trod0 enc w n ty ((cs.drop off).take sz) = some y := by
  obtain ⟨xs, n, _, _, hl, hlen, hel⟩ := DataW.trod_struct hu h
  cases hfi : (flds t)[i]? with
  | none => rw [hfi] at hf; cases hf
  | some f =>
    rw [hfi] at hf
    simp only [Option.map_some, Option.some.injEq, Prod.mk.injEq] at hf
    have hi := (Array.getElem?_eq_some_iff.1 hfi).1
    have := hel i f hfi
    rw [hf.1, hf.2, hc, List.getElem?_eq_getElem (by omega)] at this
    exact ⟨hl, n, _, this⟩

theorem u3' : Pr.underlying 3 = some (.int .i64) := by kernel_rfl
theorem c3 : Pr.cellsOf 3 = 1 := by kernel_rfl
theorem u61 : Pr.underlying 61 = some (.slice 3) := by kernel_rfl

theorem arg_int {v : Value} (h : trod0 enc w fuel 3 [v] = some x) : ∃ n : Int, v = .int .i64 n ∧ -9223372036854775808 ≤ n ∧ n ≤ 9223372036854775807 := by
  obtain ⟨n, hn, _, hw⟩ := DataW.trod_int u3' h
  injection hn with hn
  simp only [Lit.wf, Bool.and_eq_true, decide_eq_true_eq] at hw
  exact ⟨n, hn, hw⟩

/-- Numbers among the arguments. -/
theorem arg_ints {v : Value} (h : trod0 enc w fuel 61 [v] = some x) : ∃ (s : SV) (l : List Int), v = .slice s.a s.len s.cap ∧ RdS (whole w) 1 s (l.map intV) ∧ l.length ≤ maxLen := by
  obtain ⟨s, xs, rfl, hr, hm, hel⟩ := arg_slice u61 c3 (by decide) h
  have hlen := hr.len1
  obtain ⟨l, h1, h2⟩ := list_of (R := fun v (b : Int) => v = intV b) xs fun i hi => by
    obtain ⟨n, y, hy⟩ := hel i (by omega)
    have e : (xs.drop (i * 1)).take 1 = [xs[i]] := by
      rw [Nat.mul_one, List.drop_eq_getElem_cons hi]
      rfl
    rw [e] at hy
    obtain ⟨m, hm, _⟩ := arg_int hy
    exact ⟨m, hm⟩
  have : xs = l.map intV := by
    apply List.ext_getElem
    · simp [h1]
    · intro i hi hi'
      rw [List.getElem_map]
      exact h2 i hi (by omega)
  subst this
  refine ⟨s, l, rfl, hr, ?_⟩
  rw [List.length_map] at hlen
  omega

theorem u63 : Pr.underlying 63 = some (.struct (flds 63)) := by kernel_rfl
theorem c63 : Pr.cellsOf 63 = 2 := by kernel_rfl
theorem u68 : Pr.underlying 68 = some (.struct (flds 68)) := by kernel_rfl
theorem c68 : Pr.cellsOf 68 = 7 := by kernel_rfl
theorem u60 : Pr.underlying 60 = some (.slice 68) := by kernel_rfl
theorem c61 : Pr.cellsOf 61 = 1 := by kernel_rfl
theorem c9 : Pr.cellsOf 9 = 1 := by kernel_rfl

theorem list2 {cs : List Value} (h : cs.length = 2) : ∃ a b, cs = [a, b] := by
  match cs, h with
  | [a, b], _ => exact ⟨a, b, rfl⟩
theorem list7 {cs : List Value} (h : cs.length = 7) : ∃ a b c d e f g, cs = [a, b, c, d, e, f, g] := by
  match cs, h with
  | [a, b, c, d, e, f, g], _ => exact ⟨a, b, c, d, e, f, g, rfl⟩

/-- A wreck among the arguments. -/
theorem arg_wreck {cs : List Value} (h : trod0 enc w fuel 63 cs = some x) : ∃ (n : Int) (s : SV) (l : List Int), cs = [.int .i64 n, slV s] ∧ RdS (whole w) 1 s (l.map intV) := by
  obtain ⟨hl, n0, y0, h0⟩ := arg_field (i := 0) (ty := 3) (off := 0) u63 (by kernel_rfl) c3 h
  obtain ⟨_, n1, y1, h1⟩ := arg_field (i := 1) (ty := 61) (off := 1) u63 (by kernel_rfl) c61 h
  rw [c63] at hl
  obtain ⟨a, b, rfl⟩ := list2 hl
  obtain ⟨n, rfl, _⟩ := arg_int h0
  obtain ⟨s, l, rfl, hr, _⟩ := arg_ints h1
  exact ⟨n, s, l, rfl, hr⟩

theorem arg_str {v : Value} (h : trod0 enc w fuel 9 [v] = some x) : ∃ s : ByteArray, v = .string s ∧ s.size ≤ maxLen := by
  obtain ⟨s, hs, _, hm⟩ := DataW.trod_string u9 h
  injection hs with hs
  exact ⟨s, hs, hm⟩

/-- An act among the arguments. -/
theorem arg_act {cs : List Value} (h : trod0 enc w fuel 68 cs = some x) : ∃ a : Act, cs = encA a ∧ ActOk (whole w) a := by
  obtain ⟨hl, n0, y0, h0⟩ := arg_field (i := 0) (ty := 5) (off := 0) u68 (by kernel_rfl) c5 h
  obtain ⟨_, n1, y1, h1⟩ := arg_field (i := 1) (ty := 9) (off := 1) u68 (by kernel_rfl) c9 h
  obtain ⟨_, n2, y2, h2⟩ := arg_field (i := 2) (ty := 9) (off := 2) u68 (by kernel_rfl) c9 h
  obtain ⟨_, n3, y3, h3⟩ := arg_field (i := 3) (ty := 26) (off := 3) u68 (by kernel_rfl) c26 h
  obtain ⟨_, n4, y4, h4⟩ := arg_field (i := 4) (ty := 3) (off := 4) u68 (by kernel_rfl) c3 h
  obtain ⟨_, n5, y5, h5⟩ := arg_field (i := 5) (ty := 63) (off := 5) u68 (by kernel_rfl) c63 h
  rw [c68] at hl
  obtain ⟨a, b, c, d, e, f, g, rfl⟩ := list7 hl
  obtain ⟨k, hk, _, _⟩ := DataW.trod_int u5 h0
  have hka : a = .int .u8 k := by injection hk
  obtain ⟨s1, rfl, _⟩ := arg_str h1
  obtain ⟨s2, rfl, _⟩ := arg_str h2
  obtain ⟨sb, lb, rfl, hb, _⟩ := arg_bytes h3
  obtain ⟨n, rfl, _, hn⟩ := arg_int h4
  obtain ⟨wn, sw, lw, hcs, hw⟩ := arg_wreck h5
  have hcs : [f, g] = [.int .i64 wn, slV sw] := hcs
  have hf : f = .int .i64 wn := by injection hcs
  have hg : g = slV sw := by
    injection hcs with _ hcs
    injection hcs
  rw [hka, hf, hg]
  exact ⟨⟨k, s1, s2, sb, lb, n, wn, sw, lw⟩, rfl, hb, hw, hn⟩

/-- Elements of a slice among the arguments, as they are encoded. -/
theorem arg_enc {α : Type} {enc' : α → List Value} {sz : Nat} {P : α → Prop} (hok : EncOk enc' sz) {s : SV} {xs : List Value} (hr : RdS (whole w) sz s xs) (hel : ∀ i, i < s.len → ∃ a : α, (xs.drop (i * sz)).take sz = enc' a ∧ P a) :
    ∃ l : List α, xs = l.flatMap enc' ∧ l.length = s.len ∧ ∀ a ∈ l, P a := by
  have hlen := hr.len
  obtain ⟨l, h1, h2⟩ := list_of (R := fun (i : Nat) (a : α) => (xs.drop (i * sz)).take sz = enc' a ∧ P a) (List.range s.len) fun i hi => by
    rw [List.length_range] at hi
    obtain ⟨a, ha⟩ := hel i hi
    exact ⟨a, by simpa using ha⟩
  rw [List.length_range] at h1
  refine ⟨l, ?_, h1, fun a ha => ?_⟩
  · apply List.ext_getElem?
    intro j
    have hfl := hok.flat l
    by_cases hj : j < s.len * sz
    · have hi : j / sz < s.len := (Nat.div_lt_iff_lt_mul hok.pos).2 hj
      have hm := Nat.mod_lt j hok.pos
      have h3 := (h2 (j / sz) (by simpa using hi) (by omega)).1
      rw [List.getElem_range] at h3
      have hjl : j % sz < (enc' l[j / sz]).length := by rw [hok.len]; exact hm
      have h4 := hok.cell (xs := l) (i := j / sz) (j := j % sz) (x := l[j / sz]) (v := (enc' l[j / sz])[j % sz]) (by simp [h1, hi]) (by simp [hjl])
      rw [Nat.mul_comm, Nat.div_add_mod] at h4
      rw [h4, ← List.getElem?_eq_getElem hjl, ← h3, List.getElem?_take, if_pos hm, List.getElem?_drop, Nat.mul_comm, Nat.div_add_mod]
    · rw [List.getElem?_eq_none (by omega), List.getElem?_eq_none (by rw [hfl, h1]; omega)]
  · obtain ⟨i, hi, rfl⟩ := List.getElem_of_mem ha
    exact (h2 i (by simp; omega) hi).2

/-- Acts among the arguments. -/
theorem arg_acts {v : Value} (h : trod0 enc w fuel 60 [v] = some x) : ∃ (s : SV) (l : List Act), v = .slice s.a s.len s.cap ∧ RdS (whole w) 7 s (l.flatMap encA) ∧ l.length ≤ maxLen ∧ ∀ a ∈ l, ActOk (whole w) a := by
  obtain ⟨s, xs, rfl, hr, hm, hel⟩ := arg_slice u60 c68 (by decide) h
  obtain ⟨l, rfl, h1, h2⟩ := arg_enc (P := ActOk (whole w)) encA_ok hr fun i hi => by
    obtain ⟨n, y, hy⟩ := hel i hi
    exact arg_act hy
  exact ⟨s, l, rfl, hr, by omega, h2⟩
end

end Go.Proofs.Ytonjaaljnjjjcaa

/- DiskPlays: the document's examples, and the whole. Conditions: as each lemma says. -/
set_option linter.unusedVariables false
set_option linter.unusedSimpArgs false
namespace Go.Proofs.Ytonjaaljnjjjcaa
open Go Go.RowKit

theorem Sep.zeros {E w : World} {L : List Chunk} (hS : Sep E w L) (n : Nat) (hn : n ≤ 1000000) :
    ∃ (s : SV) (w' : World) (C : List Chunk), Sem.run Pr (Instr.makeSlice 26 (.int .i64 (n : Int)) (.int .i64 (n : Int))) w = .ok (.slice s.a s.len s.cap) w' ∧ RdB C s (List.replicate n 0) ∧ Sep E w' (C ++ L) := by
  obtain ⟨g, w1, h1, hS1⟩ := hS.makeSlice tiB (n := n) (by omega) (by omega)
  rw [zerosL_u8] at hS1
  refine ⟨⟨some ⟨g, 0, none⟩, n, n⟩, w1, [_], h1, ?_, hS1⟩
  have := (Own.new (T := 5) (sz := 1) (g := g) (n := n) (vs := List.replicate n (.int .u8 0)) (by simp) (by unfold maxLen; omega)).rds
  have e : (List.replicate n (0 : UInt8)).map byteV = List.replicate n (.int .u8 0) := by rw [List.map_replicate]; rfl
  show RdS _ 1 _ ((List.replicate n (0 : UInt8)).map byteV)
  rw [e]
  exact this

def aN : ByteArray := ⟨#[97]⟩
def shM1 : MDisk := ((MDisk.new 9).create aN).2
def shM2 : MDisk := (shM1.append aN (List.replicate 5 0)).2
def shM3 : MDisk := shM2.crash 0 []
def shM4 : MDisk := shM3.names.2.2
def shM5 : MDisk := (shM4.create aN).2
def shM6 : MDisk := shM5.syncNames.2
def shM7 : MDisk := (shM6.append aN (List.replicate 5 0)).2
def shM8 : MDisk := shM7.crash 0 [2]
def shM9 : MDisk := (shM8.read aN).2.2
theorem sh_1 : ((MDisk.new 9).create aN).1 = 0 := by kernel_rfl
theorem sh_2 : (shM1.append aN (List.replicate 5 0)).1 = 0 := by kernel_rfl
theorem sh_4 : shM3.names.1 = 0 := by kernel_rfl
theorem sh_4' : shM3.names.2.1 = [] := by kernel_rfl
theorem sh_5 : (shM4.create aN).1 = 0 := by kernel_rfl
theorem sh_6 : shM5.syncNames.1 = 0 := by kernel_rfl
theorem sh_7 : (shM6.append aN (List.replicate 5 0)).1 = 0 := by kernel_rfl
theorem sh_9 : (shM8.read aN).1 = 0 := by kernel_rfl
theorem sh_9' : (shM8.read aN).2.1.length = 2 := by kernel_rfl
theorem sh_10 : (shM9.append aN (List.replicate 8 0)).1 = 41 := by kernel_rfl

theorem shG2 : shM2.Good := ((MDisk.good_new 9).create aN).append aN _
theorem shS2 : shM2.Small 1 5 := ((MDisk.small_new 9).create aN).append aN _
theorem shG3 : shM3.Good := shG2.crash 0 []
theorem shS3 : shM3.Small 1 5 := shS2.crash 0 []
theorem shG7 : shM7.Good := ((shG3.names.create aN).syncNames).append aN _
theorem shS7 : shM7.Small 2 10 := ((shS3.names'.create aN).syncNames (shG3.names.create aN)).append aN _
theorem shS8 : shM8.Small 2 10 := shS7.crash 0 [2]

theorem ti61 : TI 61 3 1 8 (.int .i64 0) := ⟨by kernel_rfl, by kernel_rfl, rfl, by decide⟩
theorem encI_ok : EncOk (fun n : Int => [intV n]) 1 := ⟨fun _ => rfl, fun x u hu => by simp at hu; subst hu; rfl, by decide⟩

/-- shown. -/
theorem k35 {E w : World} {L : List Chunk} (hS : Sep E w L) : Calls Pr 35 #[] w fun e w' => e = .returned (.bool true) ∧ ∃ C, Sep E w' (C ++ L) := by
  refine call35 ?_
  unfold ir35
  refine (k25 hS 9).mono ?_
  rintro _ w1 ⟨d, D, rfl, hD, hS1⟩
  refine ⟨_, rfl, brc_false rfl ?_⟩
  refine (k32 (M := MDisk.new 9) (by decide) (by decide) hS1 hD aN).mono ?_
  rintro _ w2 ⟨D2, C2, rfl, hD2, hS2⟩
  rw [sh_1]
  refine ⟨0, rfl, brc_false rfl ?_⟩
  have hD2 : DRep D2 shM1 [] := hD2
  have hS2 : Sep E w2 (D2.chunks shM1 d ++ (C2 ++ L)) := hS2
  obtain ⟨s3, w3, C3, h3, hr3, hS3⟩ := hS2.zeros 5 (by decide)
  refine ⟨s3, w3, h3, ?_⟩
  have hS3' : Sep E w3 (D2.chunks shM1 d ++ (C3 ++ (C2 ++ L))) := hS3.weak (by intro f; simp only [ms_append, ms_cons, ms_nil]; omega)
  refine (k33 (M := shM1) (by decide) hS3' hD2 (by decide) (by decide) (fun c hc => by cases hc) aN (hr3.mono fun c hc => by simp [hc]) (by decide)).mono ?_
  rintro _ w4 ⟨D4, C4, rfl, hD4, hS4⟩
  rw [sh_2]
  refine ⟨0, rfl, brc_false rfl ?_⟩
  have hD4 : DRep D4 shM2 (C4 ++ []) := hD4
  have hS4 : Sep E w4 (D4.chunks shM2 d ++ (C4 ++ (C3 ++ (C2 ++ L)))) := hS4
  refine (k45 hS4 hD4 (fun c hc => by simp at hc; simp [hc]) shG2 shS2 (by decide) (by decide) 0 (sb := SV.nil) (ns := []) (RdS.none _ _)).mono ?_
  rintro _ w5 ⟨D5, C5, rfl, hD5, hS5⟩
  refine ⟨0, rfl, brc_false rfl ?_⟩
  have hD5 : DRep D5 shM3 (C4 ++ []) := hD5
  have hS5 : Sep E w5 (D5.chunks shM3 d ++ (C5 ++ (C4 ++ (C3 ++ (C2 ++ L))))) := hS5
  refine (k50 (M := shM3) (by decide) hS5 hD5 (by decide)).mono ?_
  rintro _ w6 ⟨s6, C6, rfl, hr6, hD6, hS6⟩
  rw [sh_4'] at hr6
  have h6 : s6.len = 0 := by have := hr6.len1; simpa using this
  rw [sh_4]
  refine ⟨s6, 0, rfl, brc_false (by rw [h6]; rfl) (brc_false rfl ?_)⟩
  have hD6 : DRep D5 shM4 (C4 ++ []) := hD6
  have hS6 : Sep E w6 (D5.chunks shM4 d ++ (C6 ++ (C5 ++ (C4 ++ (C3 ++ (C2 ++ L)))))) := hS6
  refine (k32 (M := shM4) (by decide) (by decide) hS6 hD6 aN).mono ?_
  rintro _ w7 ⟨D7, C7, rfl, hD7, hS7⟩
  rw [sh_5]
  refine ⟨0, rfl, brc_false rfl ?_⟩
  have hD7 : DRep D7 shM5 (C4 ++ []) := hD7
  have hS7 : Sep E w7 (D7.chunks shM5 d ++ (C7 ++ (C6 ++ (C5 ++ (C4 ++ (C3 ++ (C2 ++ L))))))) := hS7
  refine (k55 (M := shM5) (by decide) hS7 hD7).mono ?_
  rintro _ w8 ⟨D8, C8, rfl, hD8, hS8⟩
  rw [sh_6]
  refine ⟨0, rfl, brc_false rfl ?_⟩
  have hD8 : DRep D8 shM6 (C4 ++ []) := hD8
  have hS8 : Sep E w8 (D8.chunks shM6 d ++ (C8 ++ (C7 ++ (C6 ++ (C5 ++ (C4 ++ (C3 ++ (C2 ++ L)))))))) := hS8
  obtain ⟨s9, w9, C9, h9, hr9, hS9⟩ := hS8.zeros 5 (by decide)
  refine ⟨s9, w9, h9, ?_⟩
  let G9 := C8 ++ (C7 ++ (C6 ++ (C5 ++ (C3 ++ C2))))
  have hS9' : Sep E w9 (D8.chunks shM6 d ++ (C9 ++ (C4 ++ (G9 ++ L)))) := hS9.weak (by intro f; simp only [G9, ms_append]; omega)
  clear_value G9
  refine (k33 (M := shM6) (by decide) hS9' hD8 (by decide) (by decide) (fun c hc => by simp at hc; simp [hc]) aN (hr9.mono fun c hc => by simp [hc]) (by decide)).mono ?_
  rintro _ w10 ⟨D10, C10, rfl, hD10, hS10⟩
  rw [sh_7]
  refine ⟨0, rfl, brc_false rfl ?_⟩
  have hD10 : DRep D10 shM7 (C10 ++ (C4 ++ [])) := hD10
  have hS10 : Sep E w10 (D10.chunks shM7 d ++ (C10 ++ (C9 ++ (C4 ++ (G9 ++ L))))) := hS10
  obtain ⟨s11, w11, C11, h11, ho11, hS11⟩ := Sep.litG1 encI_ok ti61 (x := (2 : Int)) (v := .int .i64 2) hS10 (by kernel_rfl)
  refine ⟨s11, w11, h11, ?_⟩
  have hS11' : Sep E w11 (D10.chunks shM7 d ++ (C11 ++ (C10 ++ (C9 ++ (C4 ++ (G9 ++ L)))))) := hS11.weak (by intro f; simp only [ms_append, ms_cons, ms_nil]; omega)
  have hsub : ∀ {C : List Chunk}, ∀ c ∈ C10 ++ (C4 ++ []), c ∈ C ++ (C10 ++ (C9 ++ (C4 ++ (G9 ++ L)))) := fun c hc => by
    simp only [List.append_nil, List.mem_append] at hc ⊢
    rcases hc with hc | hc
    · exact .inr (.inl hc)
    · exact .inr (.inr (.inr (.inl hc)))
  refine (k45 hS11' hD10 hsub shG7 shS7 (by decide) (by decide) 0 (sb := s11) (ns := [2]) (ho11.rds.mono fun c hc => by simp [hc])).mono ?_
  rintro _ w12 ⟨D12, C12, rfl, hD12, hS12⟩
  refine ⟨0, rfl, brc_false rfl ?_⟩
  have hD12 : DRep D12 shM8 (C10 ++ (C4 ++ [])) := hD12
  have hS12 : Sep E w12 (D12.chunks shM8 d ++ ((C12 ++ C11) ++ (C10 ++ (C9 ++ (C4 ++ (G9 ++ L)))))) := Sep.weak (L := D12.chunks shM8 d ++ (C12 ++ (C11 ++ (C10 ++ (C9 ++ (C4 ++ (G9 ++ L))))))) hS12 (by intro f; simp only [ms_append, ms_cons, ms_nil]; omega)
  refine (k28 (M := shM8) (by decide) hS12 hD12 hsub aN (fun f hf => by have := shS8.each f hf; omega)).mono ?_
  rintro _ w13 ⟨s13, C13, rfl, hr13, _, hD13, hS13⟩
  have h13 : s13.len = 2 := by rw [hr13.size]; exact sh_9'
  rw [sh_9]
  refine ⟨s13, 0, rfl, brc_true (by rw [h13]; rfl) (brc_true rfl ?_)⟩
  have hD13 : DRep D12 shM9 (C10 ++ (C4 ++ [])) := hD13
  have hS13 : Sep E w13 (D12.chunks shM9 d ++ (C13 ++ ((C12 ++ C11) ++ (C10 ++ (C9 ++ (C4 ++ (G9 ++ L))))))) := hS13
  obtain ⟨s14, w14, C14, h14, hr14, hS14⟩ := hS13.zeros 8 (by decide)
  refine ⟨s14, w14, h14, ?_⟩
  have hS14' : Sep E w14 (D12.chunks shM9 d ++ ((C14 ++ (C13 ++ (C12 ++ C11))) ++ (C10 ++ (C9 ++ (C4 ++ (G9 ++ L)))))) := hS14.weak (by intro f; simp only [ms_append, ms_cons, ms_nil]; omega)
  refine (k33 (M := shM9) (by decide) hS14' hD13 (by decide) (by decide) hsub aN (hr14.mono fun c hc => by simp [hc]) (by decide)).mono ?_
  rintro _ w15 ⟨D15, C15, rfl, hD15, hS15⟩
  rw [sh_10]
  exact ⟨41, rfl, rfl, D15.chunks (shM9.append aN (List.replicate 8 0)).2 d ++ (C15 ++ ((C14 ++ (C13 ++ (C12 ++ C11))) ++ (C10 ++ (C9 ++ (C4 ++ G9))))), hS15.weak (by intro f; simp only [ms_append, ms_cons, ms_nil]; omega)⟩

/-- DiskPlays. -/
theorem k7 {E w : World} {L : List Chunk} (hS : Sep E w L) (room : Int) {s : SV} {l : List Act} (hs : RdS L 7 s (l.flatMap encA)) (hn : l.length ≤ 9223372036854775807) (hl : ∀ x ∈ l, ActOk L x) (wn : Int) {sw : SV} {wl : List Int} (hw : RdS L 1 sw (wl.map intV)) :
    Calls Pr 7 #[.int .i64 room, .slice s.a s.len s.cap, .agg #[.int .i64 wn, .slice sw.a sw.len sw.cap]] w fun e w' => e = .returned (.bool true) ∧ ∃ C, Sep E w' (C ++ L) := by
  refine call7 ?_
  unfold ir7
  obtain ⟨q, w1, h1, hS1⟩ := hS.newVar (t := 63) (v := .agg #[intV wn, slV sw])
  let wC : Chunk := (q, .cells #[intV wn, slV sw] 63 (0, 0))
  have hS1 : Sep E w1 (wC :: L) := hS1
  refine ⟨_, w1, h1, ?_⟩
  refine (k35 hS1).mono ?_
  rintro _ w2 ⟨rfl, C2, hS2⟩
  refine ⟨true, rfl, ?_⟩
  refine (k25 hS2 room).mono ?_
  rintro _ w3 ⟨d, D, rfl, hD, hS3⟩
  refine ⟨_, rfl, ?_⟩
  refine (k36 hS3 room).mono ?_
  rintro _ w4 ⟨R, r, rfl, hR, hS4⟩
  refine ⟨_, rfl, brc_false rfl ?_⟩
  have hY : ∀ c ∈ L, c ∈ R.chunks (MDisk.new room) r ++ (D.chunks (MDisk.new room) d ++ (C2 ++ wC :: L)) := fun c hc => by simp [hc]
  refine (k37 hS4 hs hY hn hl).mono ?_
  rintro _ w5 ⟨s1, l', C1, G1, rfl, ho, hl1, hl2, hS5⟩
  refine ⟨s1, rfl, ?_⟩
  have hsz := RdG.size encA_ok ho.rds
  have hS5' : Sep E w5 (D.chunks (MDisk.new room) d ++ (R.chunks (MDisk.new room) r ++ (C1 ++ (wC :: ((G1 ++ C2) ++ L))))) := hS5.weak (by intro f; simp only [ms_append, ms_cons, ms_nil]; omega)
  -- the acts
  refine ⟨fun k σ w => ∃ (j : Nat) (M : MDisk) (D : DS) (R : RS) (G : List Chunk), j ≤ l'.length ∧ k = l'.length - j ∧ σ = ((j : Int), ()) ∧ M.Good ∧ M.Small j (j * 50) ∧ DRep D M (G ++ L) ∧ RRep R M (G ++ L) ∧ Sep E w (D.chunks M d ++ (R.chunks M r ++ (C1 ++ (wC :: (G ++ L))))), l'.length,
    ⟨0, MDisk.new room, D, R, G1 ++ C2, Nat.zero_le _, rfl, rfl, MDisk.good_new room, (MDisk.small_new room).mono (Nat.le_refl _) (Nat.zero_le _), hD.mono (fun c hc => by cases hc), hR.mono (fun c hc => by cases hc), hS5'⟩, ?_⟩
  clear hS1 hS2 hS3 hS4 hS5 hS5' hD hR hY h1 D R
  rintro k σ w6 ⟨j, M, D, R, G, hj, rfl, rfl, hg, hm, hD, hR, hS6⟩ _
  dsimp only
  refine brc_intro (fun h => ?_) (fun h => ?_)
  · have h : j < l'.length := by simp at h; omega
    have hx : l'[j]? = some l'[j] := List.getElem?_eq_getElem h
    have hxm : l'[j] ∈ l' := List.getElem_mem h
    generalize l'[j] = x at hx hxm
    obtain ⟨hxo, hxb⟩ := hl2 x hxm
    obtain ⟨a, ha, hat0, _⟩ := RdG.at_ encA_ok ho.rds hx
    rw [ha]
    refine ⟨⟨by omega, by omega⟩, x.kind, x.name, x.to, x.sb, x.n, x.wn, x.swb, hat0 (t := 68) (by kernel_rfl) (by kernel_rfl) hS6 (fun c hc => by simp [hc]), ?_⟩
    obtain ⟨y, w7, h7, hS7⟩ := hS6.alloc (t := 68) z68
    refine ⟨_, w7, h7, ?_⟩
    obtain ⟨w8, h8, hS8⟩ := Sep.store (cs := [.int .u8 0, .string ByteArray.empty, .string ByteArray.empty, .slice none 0 0, .int .i64 0, .int .i64 0, .slice none 0 0]) (o := 0) (n := 7) (v := .agg (encA x).toArray) (t := 68) hS7 (by kernel_rfl) rfl (by simp [encA, Value.cells]) (by simp [encA, Value.cells, Value.oneCell'])
    let X : Chunk := (y, .cells (encA x).toArray 68 (0, 0))
    have hS8 : Sep E w8 (X :: (D.chunks M d ++ (R.chunks M r ++ (C1 ++ (wC :: (G ++ L)))))) := hS8
    let S : World → Prop := fun w => Sep E w [X]
    have lX : ∀ w, S w → At Pr w (loadVar 68 ⟨y, 0, none⟩) (.agg (encA x).toArray) := fun w hw => Sep.loadS (L := [X]) hw (b := y) (o := 0) (n := 7) List.mem_cons_self (by kernel_rfl) (by kernel_rfl) rfl (by simp [encA])
    refine ⟨w8, h8, S, hS8.drew.weak (by intro f; simp only [ms_append, ms_cons, ms_nil]; omega), x.kind, x.name, x.to, x.sb, x.n, x.wn, x.swb, lX, x.kind, x.name, x.to, x.sb, x.n, x.wn, x.swb, lX, ?_⟩
    have hS8' : Sep E (World.drew w8) (D.chunks M d ++ (X :: (R.chunks M r ++ (C1 ++ (wC :: (G ++ L)))))) := hS8.drew.weak (by intro f; simp only [ms_append, ms_cons, ms_nil]; omega)
    have hjb : j * 50 ≤ 100 * 50 := Nat.mul_le_mul_right _ (by omega)
    refine (k38 hS8' hD (fun c hc => by
      simp only [List.mem_cons, List.mem_append] at hc ⊢
      exact .inr (.inr (.inr (.inr hc)))) hg hm (by omega) (by omega) (hxo.mono fun c hc => by simp [hc]) (by omega)).mono ?_
    rintro _ w9 ⟨D9, C9, rfl, hD9, hS9⟩
    refine ⟨_, rfl, S, fun w hw => hw, hS9.weak (by intro f; simp only [ms_append, ms_cons, ms_nil]; omega), ?_⟩
    have hS9' : Sep E w9 (R.chunks M r ++ (D9.chunks (actM M x).2 d ++ (C9 ++ (X :: (C1 ++ (wC :: (G ++ L))))))) := hS9.weak (by intro f; simp only [ms_append, ms_cons, ms_nil]; omega)
    refine (k39 hS9' hR (fun c hc => by
      simp only [List.mem_cons, List.mem_append] at hc ⊢
      exact .inr (.inr (.inr (.inr (.inr hc))))) hg hm (by omega) (by omega) (hxo.mono fun c hc => by simp [hc]) (by omega)).mono ?_
    rintro _ w10 ⟨R10, C10, rfl, hR10, hS10⟩
    refine ⟨_, rfl, S, fun w hw => hw, hS10.weak (by intro f; simp only [ms_append, ms_cons, ms_nil]; omega), brc_false (by simp) ?_⟩
    have hg' := actM_good hg x
    have hm' : (actM M x).2.Small (j + 1) ((j + 1) * 50) := (actM_small hg hm hxo.n).mono (Nat.le_refl _) (by rw [Nat.succ_mul]; omega)
    have hjb' : (j + 1) * 50 ≤ 100 * 50 := Nat.mul_le_mul_right _ (by omega)
    generalize (actM M x).2 = M' at *
    have hT := small_tot hm' (by omega) (by omega)
    have hcc := small_ch hm'
    have hS10' : Sep E w10 (D9.chunks M' d ++ (R10.chunks M' r ++ (C10 ++ (C9 ++ (X :: (C1 ++ (wC :: (G ++ L)))))))) := hS10.weak (by intro f; simp only [ms_append, ms_cons, ms_nil]; omega)
    refine (k40 hS10' hD9 (by omega) (by omega)).mono ?_
    rintro _ w11 ⟨C11, rfl, hS11⟩
    refine ⟨_, rfl, S, fun w hw => hw, hS11.weak (by intro f; simp only [ms_append, ms_cons, ms_nil]; omega), ?_⟩
    have hS11' : Sep E w11 (R10.chunks M' r ++ (D9.chunks M' d ++ (C11 ++ (C10 ++ (C9 ++ (X :: (C1 ++ (wC :: (G ++ L)))))))) ) := hS11.weak (by intro f; simp only [ms_append, ms_cons, ms_nil]; omega)
    refine (k41 hS11' hR10 (fun c hc => by
      simp only [List.mem_cons, List.mem_append] at hc ⊢
      rcases hc with hc | hc
      · exact .inr (.inr (.inl hc))
      · exact .inr (.inr (.inr (.inr (.inr (.inr (.inr hc))))))) hg' hm' (by omega) (by omega)).mono ?_
    rintro _ w12 ⟨C12, rfl, hS12⟩
    refine ⟨_, rfl, S, fun w hw => hw, hS12.weak (by intro f; simp only [ms_append, ms_cons, ms_nil]; omega), brc_false (by simp) ?_⟩
    refine ⟨l'.length - (j + 1), by omega, j + 1, M', D9, R10, C12 ++ (C11 ++ (C10 ++ (C9 ++ (X :: G)))), by omega, rfl, by rw [w64 (by omega) (by omega)]; rfl, hg', hm', hD9.mono fun c hc => ?_, hR10.mono fun c hc => ?_, hS12.weak (by intro f; simp only [ms_append, ms_cons, ms_nil]; omega)⟩
    · simp only [List.mem_cons, List.mem_append] at hc ⊢
      rcases hc with hc | hc | hc
      · exact .inl (.inr (.inr (.inr (.inl hc))))
      · exact .inl (.inr (.inr (.inr (.inr (.inr hc)))))
      · exact .inr hc
    · simp only [List.mem_cons, List.mem_append] at hc ⊢
      rcases hc with hc | hc | hc
      · exact .inl (.inr (.inr (.inl hc)))
      · exact .inl (.inr (.inr (.inr (.inr (.inr hc)))))
      · exact .inr hc
  · -- a clone, and a crash
    have hjb : j * 50 ≤ 100 * 50 := Nat.mul_le_mul_right _ (by omega)
    refine (k42 hS6 hD hg hm (by omega)).mono ?_
    rintro _ w13 ⟨Dx, x, ord, C13, rfl, hcov, hDx, hS13⟩
    refine ⟨_, rfl, brc_false rfl ?_⟩
    have hS13' : Sep E w13 (R.chunks M r ++ (Dx.chunks (M.renum ord) x ++ (D.chunks M d ++ (C13 ++ (C1 ++ (wC :: (G ++ L))))))) := hS13.weak (by intro f; simp only [ms_append, ms_cons, ms_nil]; omega)
    refine (k44 hS13' hR hm (by omega)).mono ?_
    rintro _ w14 ⟨Ry, y, C14, rfl, hRy, hS14⟩
    refine ⟨_, rfl, ?_⟩
    have hS14' : Sep E w14 (D.chunks M d ++ (Ry.chunks M y ++ (R.chunks M r ++ (Dx.chunks (M.renum ord) x ++ (C14 ++ (C13 ++ (C1 ++ (wC :: (G ++ L))))))))) := hS14.weak (by intro f; simp only [ms_append, ms_cons, ms_nil]; omega)
    refine (k43 hS14' hD hRy (fun c hc => by
      simp only [List.mem_cons, List.mem_append] at hc ⊢
      exact .inr (.inr (.inr (.inr (.inr (.inr hc)))))) hg hm (by omega) (by omega)).mono ?_
    rintro _ w15 ⟨rfl, hS15⟩
    have mw : wC ∈ R.chunks M r ++ (Dx.chunks (M.renum ord) x ++ (C14 ++ (C13 ++ (C1 ++ (wC :: (G ++ L)))))) := by simp
    refine ⟨true, rfl, brc_false rfl ⟨wn, sw, hS15.loadS (b := q) (o := 0) (n := 2) mw (by kernel_rfl) (by kernel_rfl) rfl (by simp), ?_⟩⟩
    have hS15' : Sep E w15 (Dx.chunks (M.renum ord) x ++ (R.chunks M r ++ (C14 ++ (C13 ++ (C1 ++ (wC :: (G ++ L))))))) := hS15.weak (by intro f; simp only [ms_append, ms_cons, ms_nil]; omega)
    refine (k45 hS15' hDx (fun c hc => by
      simp only [List.mem_cons, List.mem_append] at hc ⊢
      exact .inr (.inr (.inr (.inr (.inr hc))))) (good_ren hg hcov) (small_ren hm hcov) (by omega) (by omega) wn (hw.mono fun c hc => by simp [hc])).mono ?_
    rintro _ w16 ⟨D16, C16, rfl, hD16, hS16⟩
    rw [crash_ren hcov] at hD16 hS16
    have mw2 : wC ∈ D16.chunks (M.crash wn wl) x ++ (C16 ++ (R.chunks M r ++ (C14 ++ (C13 ++ (C1 ++ (wC :: (G ++ L))))))) := by simp
    refine ⟨0, rfl, wn, sw, hS16.loadS (b := q) (o := 0) (n := 2) mw2 (by kernel_rfl) (by kernel_rfl) rfl (by simp), ?_⟩
    have hS16' : Sep E w16 (R.chunks M r ++ (D16.chunks (M.crash wn wl) x ++ (C16 ++ (C14 ++ (C13 ++ (C1 ++ (wC :: (G ++ L)))))))) := hS16.weak (by intro f; simp only [ms_append, ms_cons, ms_nil]; omega)
    refine (k46 hS16' hR (fun c hc => by
      simp only [List.mem_cons, List.mem_append] at hc ⊢
      exact .inr (.inr (.inr (.inr (.inr (.inr hc)))))) hg hm (by omega) (by omega) wn (hw.mono fun c hc => by simp [hc])).mono ?_
    rintro _ w17 ⟨R17, C17, rfl, hR17, hS17⟩
    refine ⟨0, rfl, brc_true rfl ?_⟩
    have hS17' : Sep E w17 (D16.chunks (M.crash wn wl) x ++ (R17.chunks (M.crash wn wl) r ++ (C17 ++ (C16 ++ (C14 ++ (C13 ++ (C1 ++ (wC :: (G ++ L)))))))))  := hS17.weak (by intro f; simp only [ms_append, ms_cons, ms_nil]; omega)
    refine (k43 hS17' (hD16.right C17) hR17 (fun c hc => by
      simp only [List.mem_cons, List.mem_append] at hc ⊢
      rcases hc with hc | hc
      · exact .inl hc
      · exact .inr (.inr (.inr (.inr (.inr (.inr hc)))))) (hg.crash wn wl) (hm.crash wn wl) (by omega) (by omega)).mono ?_
    rintro _ w18 ⟨rfl, hS18⟩
    exact ⟨true, rfl, rfl, C17 ++ (C16 ++ (C14 ++ (C13 ++ (C1 ++ (wC :: G))))), hS18.weak (by intro f; simp only [ms_append, ms_cons, ms_nil]; omega)⟩

end Go.Proofs.Ytonjaaljnjjjcaa

set_option linter.unusedVariables false
set_option linter.unusedSimpArgs false
namespace Go.Proofs.Ytonjaaljnjjjcaa
open Go Go.ChangeShapes Go.WideShapes Go.ChangeAt Go.RowKit

theorem own0 : ownKnob Try.prog.godebug = none := by kernel_rfl
theorem laidOut0 : laidOutB Try.prog = true := by kernel_rfl

set_option maxRecDepth 100000 in
theorem diskPlays_lifted (os : Os) (started : os.Started) (H : Type) (enc : TypeId × Value → H) :
    ReturnsInHanded {} Try.checked os 7 .any (Rows.diskPlaysSpec.pre6 enc Try.prog Try.f7 Rows.diskPlaysRow.domain false) (Rows.diskPlaysSpec.post enc Try.prog Try.f7 false true false false) := by
  refine returnsInHanded_of_change (C := Try.checked) own0 started (by kernel_rfl) Try.func7
    (ChangeSpec.witness6 (enc := enc) (C := Try.checked) false ⟨#[], #[.int .i64 0, .slice none 0 0, .agg #[.int .i64 0, .slice none 0 0]], []⟩ 8 (by kernel_rfl) (by kernel_rfl) (by kernel_rfl) (by kernel_rfl)) ?_
  intro W base args ds gs before hval0 hW hcnd _
  have hW' := hW
  obtain ⟨p, q, hA0, hV, rfl, hfz, hnd⟩ := hW
  have hA : DataW.TrodAll enc Try.prog W 0 (fun _ => true) true Try.f7.params.toList args.toList ds p := hA0
  rw [Try.params7] at hA
  obtain ⟨v0, v1, v2, d0, d1, d2, p0, p1, p2, rfl, rfl, rfl, h0, h1, h2⟩ := trodAll_three hA
  obtain ⟨rfl, rfl⟩ := trodVars_none hV
  have hval : ∀ (j : Nat) t v, Try.f7.params[j]? = some t → #[v0, v1, v2][j]? = some v → Value.okWide Try.prog W .any base t v := hval0
  obtain ⟨room, rfl⟩ := okWide_int u3' (hval 0 3 v0 rfl rfl)
  obtain ⟨a0, len, cap, rfl⟩ := okWide_slice u60 (hval 1 60 v1 rfl rfl)
  obtain ⟨cs, rfl, hcs⟩ := okWide_struct u63 (hval 2 63 v2 rfl rfl)
  obtain ⟨f0, hf0⟩ := h0
  obtain ⟨f1, hf1⟩ := h1
  obtain ⟨f2, hf2⟩ := h2
  obtain ⟨s, l, hs, hr, hm, hl⟩ := arg_acts (enc := enc) (w := W) (fuel := f1) (v := .slice a0 len cap) hf1
  obtain ⟨rfl, rfl, rfl⟩ := Value.slice.inj hs
  obtain ⟨wn, sw, wl, hcv, hw⟩ := arg_wreck (enc := enc) (w := W) (fuel := f2) hf2
  have hcs' : (Value.agg cs) = .agg #[.int .i64 wn, slV sw] := by
    have : cs.toList = [.int .i64 wn, slV sw] := hcv
    cases cs
    simp only at this
    rw [this]
  rw [hcs'] at hf2 hW' hA0 ⊢
  clear hval0 hval hs hcv hcs hcs'
  simp only [List.append_nil] at hW'
  have hlt : ∀ x ∈ p0 ++ p1 ++ p2, x.block < W.heap.size := fun x hx => by simpa using hW'.lt x hx
  refine (k7 (Sep.all W) room hr hm hl wn hw).mono fun e W' ⟨he, C, hS⟩ => ?_
  subst he
  have bel : Below W.heap.size W W' := hS.below fun f => by rw [ms_append]; omega
  refine ⟨_, rfl, _, _, _, [], p0 ++ p1 ++ p2, [], hW', ?_, ?_, rfl, bel.frame _, fun h => by cases h⟩
  · exact trodAll_mk1 (shut_bool Try.underlying4 true)
  · have h3 := trodAll_mk3 (Below.trod laidOut0 (by kernel_rfl) (of_decide_eq_true (by kernel_rfl)) ⟨f0, hf0⟩ bel fun x hx => hlt x (by simp [hx])) (Below.trod laidOut0 (by kernel_rfl) (of_decide_eq_true (by kernel_rfl)) ⟨f1, hf1⟩ bel fun x hx => hlt x (by simp [hx])) (Below.trod laidOut0 (by kernel_rfl) (of_decide_eq_true (by kernel_rfl)) ⟨f2, hf2⟩ bel fun x hx => hlt x (by simp [hx]))
    rw [← List.append_assoc] at h3
    exact h3

theorem diskPlays_holds : Rows.DiskPlaysSaid :=
  OpenClaim.holds_of_wide 7 Try.f7 rfl rfl rfl rfl rfl rfl rfl ⟨rfl, rfl, rfl, rfl, rfl⟩ rfl rfl rfl rfl rfl (by kernel_rfl) Try.func7 (by kernel_rfl)
    (of_decide_eq_true (by kernel_rfl)) (by unfold Func.isWrapper; rw [if_neg (of_decide_eq_false (by kernel_rfl))]; exact ⟨rfl, rfl⟩)
    (fun os started H enc _ => diskPlays_lifted os started H enc)

#print axioms diskPlays_holds
end Go.Proofs.Ytonjaaljnjjjcaa
