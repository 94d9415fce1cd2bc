/- The program's disk: Used, Append. Conditions: as each lemma says. -/
import Derived.Test.YtonjaaljnjjjcaaD5
set_option linter.unusedVariables false
set_option linter.unusedSimpArgs false
namespace Go.Proofs.Ytonjaaljnjjjcaa
open Go Go.RowKit

theorem u160 : Pr.underlying 160 = some (.map 141 4) := by kernel_rfl
theorem u141 : Pr.underlying 141 = some (.pointer 146) := by kernel_rfl
theorem s146 : sizeOf? Pr 146 = some (1 + 1) := by kernel_rfl
theorem z153 : (Pr.info? 153).bind (·.zero) = some (.agg #[.string ByteArray.empty, .string ByteArray.empty, .pointer none]) := by kernel_rfl

theorem setE_mem {K : Type} [DecidableEq K] (k : K) (v : Value) (c : Nat) (l : List (Ent K)) (j : K) : j ∈ (setE k v c l).map (·.k) ↔ j ∈ l.map (·.k) ∨ j = k := by
  rw [setE_keys]
  split
  · rename_i h
    rw [getE_isSome] at h
    constructor
    · exact .inl
    · rintro (h' | rfl)
      · exact h'
      · exact h
  · simp

theorem setE_vals {K : Type} [DecidableEq K] (k : K) (v : Value) (c : Nat) : ∀ (l : List (Ent K)), (∀ e ∈ l, e.v = v) → ∀ e ∈ setE k v c l, e.v = v
  | [], _, e, he => by
    simp [setE] at he
    rw [he]
  | x :: l, h, e, he => by
    unfold setE at he
    split at he
    · rcases List.mem_cons.1 he with rfl | he
      · rfl
      · exact h e (List.mem_cons_of_mem _ he)
    · rcases List.mem_cons.1 he with rfl | he
      · exact h _ List.mem_cons_self
      · exact setE_vals k v c l (fun y hy => h y (List.mem_cons_of_mem _ hy)) e he

theorem born_inj {K : Type} : ∀ {l : List (Ent K)}, (l.map (·.born)).Nodup → ∀ {e e' : Ent K}, e ∈ l → e' ∈ l → e.born = e'.born → e = e'
  | [], _, _, _, h, _, _ => by cases h
  | x :: l, hn, e, e', h, h', hb => by
    rw [List.map_cons, List.nodup_cons] at hn
    rcases List.mem_cons.1 h with h1 | h1
    · rcases List.mem_cons.1 h' with h2 | h2
      · rw [h1, h2]
      · exact absurd (List.mem_map.2 ⟨e', h2, by rw [← hb, h1]⟩) hn.1
    · rcases List.mem_cons.1 h' with h2 | h2
      · exact absurd (List.mem_map.2 ⟨e, h1, by rw [hb, h2]⟩) hn.1
      · exact born_inj hn.2 h1 h2 hb

theorem ms_mono {α : Type} {f g : α → Nat} (h : ∀ x, f x ≤ g x) : ∀ l : List α, ms f l ≤ ms g l
  | [] => Nat.le_refl _
  | x :: l => by
    have h1 := h x
    have h2 := ms_mono h l
    rw [ms_cons, ms_cons]
    omega
theorem ms_map {α β : Type} (f : β → Nat) (g : α → β) : ∀ l : List α, ms f (l.map g) = ms (fun x => f (g x)) l
  | [] => rfl
  | x :: l => by rw [List.map_cons, ms_cons, ms_cons, ms_map f g l]
theorem ms_congr {α : Type} {f g : α → Nat} : ∀ {l : List α}, (∀ x ∈ l, f x = g x) → ms f l = ms g l
  | [], _ => rfl
  | x :: l, h => by rw [ms_cons, ms_cons, h x List.mem_cons_self, ms_congr fun y hy => h y (List.mem_cons_of_mem _ hy)]


abbrev setM (m : Nat) (l : List (Ent Nat)) (c : Nat) : Chunk := mapC ptrV m l c

theorem DS.dmem (D : DS) (M : MDisk) (d : Nat) (L : List Chunk) : dChunk M d D.mn D.mq D.cs ∈ D.chunks M d ++ L := by simp [DS.chunks]

/-- Put into a set of files. -/
theorem Sep.put {E w : World} {L : List Chunk} {M : MDisk} {D : DS} {d m c : Nat} {l : List (Ent Nat)} {G : List Chunk} (hS : Sep E w (setM m l c :: (G ++ (D.chunks M d ++ L)))) (hw : MapWf l c) (hk : ∀ b ∈ l.map (·.k), b ∈ D.bs) (hv : ∀ e ∈ l, e.v = .bool true) {b : Nat} (hb : b ∈ D.bs) :
    ∃ w' l' c', Sem.run Pr (Instr.mapUpdate 160 (.map (some m)) (.pointer (some ⟨b, 0, none⟩)) (.bool true)) w = .ok () w' ∧ MapWf l' c' ∧ (∀ e ∈ l', e.v = .bool true) ∧ (∀ j, j ∈ l'.map (·.k) ↔ j ∈ l.map (·.k) ∨ j = b) ∧ Sep E w' (setM m l' c' :: (G ++ (D.chunks M d ++ L))) := by
  have hpl : ∀ b ∈ D.bs, Plain w b := fun b hb => by
    obtain ⟨r, hr, rfl⟩ := List.mem_map.1 hb
    have : fChunk r ∈ setM m l c :: (G ++ (D.chunks M d ++ L)) := by
      simp only [DS.chunks, List.mem_cons, List.mem_append, List.mem_map]
      exact .inr (.inr (.inl (.inr (.inr (.inr (.inr ⟨r, hr, rfl⟩))))))
    exact hS.plain this
  obtain ⟨w', h1, h2⟩ := hS.mapUpdate (mt := 160) u160 (.bool true) (keyOk_ptr u141 s146 (hpl b hb) fun x hx => hpl _ (hk _ (List.mem_map.2 ⟨x, hx, rfl⟩)))
  exact ⟨w', _, _, h1, hw.set b _, setE_vals _ _ _ _ hv, fun j => setE_mem _ _ _ _ _, h2⟩

/-- Used. -/
theorem k40 {E w : World} {L I : List Chunk} {M : MDisk} {D : DS} {d : Nat} (hS : Sep E w (D.chunks M d ++ L)) (hD : DRep D M I) (hT : M.total ≤ 1099511627776) (hc : M.changes.length ≤ 1099511627776) :
    Calls Pr 40 #[.pointer (some ⟨d, 0, none⟩)] w fun e w' => ∃ C : List Chunk, e = .returned (.int .i64 ((M.used : Nat) : Int)) ∧ Sep E w' (C ++ (D.chunks M d ++ L)) := by
  refine call40 ?_
  unfold ir40
  refine brc_false rfl ?_
  obtain ⟨m1, w1, h1, hS1⟩ := hS.makeMap (kv := ptrV) 160
  refine ⟨m1, w1, h1, some D.mq, hS1.load (o := 1) (List.mem_cons_of_mem _ (D.dmem M d L)) rfl (by kernel_rfl), ?_⟩
  have hmk : strM D.mq D.lk D.ck ∈ mapC ptrV m1 [] 0 :: (D.chunks M d ++ L) := by simp [DS.chunks]
  obtain ⟨it, w2, h2, hS2⟩ := hS1.range (mt := 137) hmk u137
  refine ⟨_, w2, h2, ?_⟩
  have hnod := DS.nodup hS
  -- the kept names
  refine ⟨fun n _ w3 => ∃ (seen : List Nat) (lu : List (Ent Nat)) (cu : Nat), n = D.lk.length - cnt seen D.lk ∧ MapWf lu cu ∧ (∀ e ∈ lu, e.v = .bool true) ∧ (∀ b, b ∈ lu.map (·.k) ↔ ∃ e ∈ D.lk, e.born ∈ seen ∧ e.v = .pointer (some ⟨b, 0, none⟩)) ∧ Sep E w3 (iterC it D.mq D.ck seen :: setM m1 lu cu :: (D.chunks M d ++ L)), _, ⟨[], [], 0, rfl, MapWf.nil _, by simp, by simp, hS2⟩, ?_⟩
  rintro n _ w3 ⟨seen, lu, cu, rfl, hwu, hvu, hku, hS3⟩ _
  have hkb : ∀ b ∈ lu.map (·.k), b ∈ D.bs := fun b hb => by
    obtain ⟨e, he, _, hv⟩ := (hku b).1 hb
    obtain ⟨i, hf, hi, hv'⟩ := hD.kept.ent he
    rw [hv, filePtr_some hi] at hv'
    simp only [Value.pointer.injEq, Option.some.injEq, Addr.mk.injEq, and_true] at hv'
    rw [hv']
    exact List.getElem_mem hi
  refine hS3.next (m := D.mq) (l := D.lk) (kv := Value.string) (by simp [DS.chunks]) hD.kept.wf.born (fun hall => ?_) (fun e he hes w4 hS4 => ?_)
  · -- the changes
    refine ⟨D.cs, hS3.load (o := 2) (List.mem_cons_of_mem _ (List.mem_cons_of_mem _ (D.dmem M d L))) rfl (by kernel_rfl), ?_⟩
    have hlen : D.cs.len = M.changes.length := by
      have := hD.own.len
      rw [chV_len] at this
      omega
    refine ⟨fun n σ w4 => ∃ (k : Nat) (lu : List (Ent Nat)) (cu : Nat) (G : List Chunk), k ≤ M.changes.length ∧ n = M.changes.length - k ∧ σ = ((k : Int), ()) ∧ MapWf lu cu ∧ (∀ e ∈ lu, e.v = .bool true) ∧ (∀ b, b ∈ lu.map (·.k) ↔ (∃ e ∈ D.lk, e.v = .pointer (some ⟨b, 0, none⟩)) ∨ ∃ c ∈ M.changes.take k, c.new ≠ noName ∧ filePtr D.bs c.file = some ⟨b, 0, none⟩) ∧ Sep E w4 (setM m1 lu cu :: (G ++ (D.chunks M d ++ L))), M.changes.length, ⟨0, lu, cu, [iterC it D.mq D.ck seen], Nat.zero_le _, rfl, rfl, hwu, hvu, fun b => ?_, hS3.weak (by intro f; simp only [ms_append, ms_cons, ms_nil]; omega)⟩, ?_⟩
    · rw [hku b]
      simp only [List.take_zero, List.not_mem_nil, false_and, exists_false, or_false]
      exact ⟨fun ⟨e, h1, _, h2⟩ => ⟨e, h1, h2⟩, fun ⟨e, h1, h2⟩ => ⟨e, h1, hall e h1, h2⟩⟩
    rintro n σ w4 ⟨k, lu, cu, G, hk, rfl, rfl, hwu, hvu, hku, hS4⟩ _
    dsimp only
    have hkb : ∀ b ∈ lu.map (·.k), b ∈ D.bs := fun b hb => by
      rcases (hku b).1 hb with ⟨e, he, hv⟩ | ⟨c, hcm, hcn, hv⟩
      · obtain ⟨i, hf, hi, hv'⟩ := hD.kept.ent he
        rw [hv, filePtr_some hi] at hv'
        simp only [Value.pointer.injEq, Option.some.injEq, Addr.mk.injEq, and_true] at hv'
        rw [hv']
        exact List.getElem_mem hi
      · have hi := hD.chOk c (List.mem_of_mem_take hcm) hcn
        rw [filePtr_some hi] at hv
        simp only [Option.some.injEq, Addr.mk.injEq, and_true] at hv
        rw [← hv]
        exact List.getElem_mem hi
    refine brc_intro (fun h => ?_) (fun h => ?_)
    · have h : k < M.changes.length := by simp at h; omega
      refine ⟨⟨by omega, by omega⟩, ?_⟩
      obtain ⟨a, ha, hat⟩ := hD.own.rds.idxS (i := k) (by omega) (by decide) hS4 (fun c hc => by simp [DS.chunks, hc]) (t := 153) (by kernel_rfl) (by kernel_rfl)
      rw [ha, chV_at D.bs M.changes k M.changes[k] (by simp [h])] at *
      refine ⟨M.changes[k].gone, M.changes[k].new, _, by simpa [chV] using hat, ?_⟩
      generalize hp : (if M.changes[k].new = noName then none else filePtr D.bs M.changes[k].file) = p
      obtain ⟨b, w5, h5, hS5⟩ := hS4.alloc (t := 153) z153
      refine ⟨_, w5, h5, ?_⟩
      obtain ⟨w6, h6, hS6⟩ := hS5.store (o := 0) (n := 3) (v := .agg #[.string M.changes[k].gone, .string M.changes[k].new, .pointer p]) (t := 153) (by kernel_rfl) rfl (by simp) (by simp [Value.cells, Value.oneCell'])
      refine ⟨w6, h6, M.changes[k].new, hS6.load (o := 1) List.mem_cons_self rfl (by kernel_rfl), ?_⟩
      have ht : M.changes.take (k + 1) = M.changes.take k ++ [M.changes[k]] := by rw [List.take_add_one]; simp [h]
      rw [ba_ne]
      refine brc_intro (fun hn => ?_) (fun hn => ?_)
      · have hn : M.changes[k].new ≠ noName := by simpa using hn
        rw [if_neg hn] at hp
        have hi := hD.chOk _ (List.getElem_mem h) hn
        rw [filePtr_some hi] at hp
        subst hp
        refine ⟨_, hS6.load (o := 2) List.mem_cons_self rfl (by kernel_rfl), ?_⟩
        have hS6' : Sep E w6 (setM m1 lu cu :: (([(b, Obj.cells (spl [.string ByteArray.empty, .string ByteArray.empty, .pointer none] 0 (Value.agg #[.string M.changes[k].gone, .string M.changes[k].new, .pointer (some ⟨D.bs[M.changes[k].file], 0, none⟩)]).cells.toList).toArray 153 (0, 0))] ++ G) ++ (D.chunks M d ++ L))) := hS6.weak (by intro f; simp only [ms_append, ms_cons, ms_nil]; omega)
        obtain ⟨w7, l', c', h7, hw', hv', hk', hS7⟩ := hS6'.put hwu hkb hvu (List.getElem_mem hi)
        refine ⟨w7, h7, M.changes.length - (k + 1), by omega, k + 1, l', c', _, by omega, rfl, by rw [w64 (by omega) (by omega)]; rfl, hw', hv', fun b => ?_, hS7⟩
        rw [hk', hku, ht]
        simp only [List.mem_append, List.mem_singleton]
        constructor
        · rintro ((h1 | ⟨c, hc1, hc2⟩) | rfl)
          · exact .inl h1
          · exact .inr ⟨c, .inl hc1, hc2⟩
          · exact .inr ⟨_, .inr rfl, hn, filePtr_some hi⟩
        · rintro (h1 | ⟨c, hc1 | rfl, hc2, hc3⟩)
          · exact .inl (.inl h1)
          · exact .inl (.inr ⟨c, hc1, hc2, hc3⟩)
          · rw [filePtr_some hi] at hc3
            simp only [Option.some.injEq, Addr.mk.injEq, and_true] at hc3
            exact .inr hc3.symm
      · have hn : M.changes[k].new = noName := by simpa using hn
        refine ⟨M.changes.length - (k + 1), by omega, k + 1, lu, cu, (b, Obj.cells (spl [.string ByteArray.empty, .string ByteArray.empty, .pointer none] 0 (Value.agg #[.string M.changes[k].gone, .string M.changes[k].new, .pointer p]).cells.toList).toArray 153 (0, 0)) :: G, by omega, rfl, by rw [w64 (by omega) (by omega)]; rfl, hwu, hvu, fun b => ?_, hS6.weak (by intro f; simp only [ms_append, ms_cons, ms_nil]; omega)⟩
        rw [hku, ht]
        simp only [List.mem_append, List.mem_singleton]
        constructor
        · rintro (h1 | ⟨c, hc1, hc2⟩)
          · exact .inl h1
          · exact .inr ⟨c, .inl hc1, hc2⟩
        · rintro (h1 | ⟨c, hc1 | rfl, hc2, hc3⟩)
          · exact .inl h1
          · exact .inr ⟨c, hc1, hc2, hc3⟩
          · exact absurd hn hc2
    · -- the sum
      have h : k = M.changes.length := by simp at h; omega
      subst h
      rw [List.take_length] at hku
      obtain ⟨it2, w5, h5, hS5⟩ := hS4.range (mt := 160) List.mem_cons_self u160
      refine ⟨_, w5, h5, ?_⟩
      have hused : ms (lenAt D.fs) (lu.map (·.k)) = M.used := by
        rw [sum_held D.fs hnod _ hwu.keys hkb]
        unfold MDisk.used
        rw [← hD.files]
        refine (usedTo_ms M D.fs 0 (fun r => r.b ∈ lu.map (·.k)) fun j r hj => ?_).symm
        have hjl : j < D.bs.length := by
          have := (List.getElem?_eq_some_iff.1 hj).1
          simpa [DS.bs] using this
        have hjb : D.bs[j] = r.b := by
          have := List.getElem?_eq_some_iff.1 hj
          simp [DS.bs, this.2]
        have hfp : filePtr D.bs j = some ⟨r.b, 0, none⟩ := by rw [filePtr_some hjl, hjb]
        rw [Nat.zero_add, holds_iff, hku]
        constructor
        · rintro (⟨e, he, hv⟩ | ⟨c, hcm, hcn, hcv⟩)
          · obtain ⟨i, hf, hi, hv'⟩ := hD.kept.ent he
            rw [hv] at hv'
            have : filePtr D.bs i = filePtr D.bs j := by rw [hfp]; simpa using hv'.symm
            have := filePtr_inj hnod hi this
            subst this
            exact .inl ⟨_, mem_of_findN hf, rfl⟩
          · have := filePtr_inj hnod (hD.chOk c hcm hcn) (hcv.trans hfp.symm)
            exact .inr ⟨c, hcm, hcn, this⟩
        · rintro (⟨x, hx, rfl⟩ | ⟨c, hcm, hcn, rfl⟩)
          · have hg := hD.kept.get x.1
            rw [findN_mem hD.kept.sorted hx] at hg
            obtain ⟨e, he, _, hv⟩ := mem_of_getE hg
            exact .inl ⟨e, he, by rw [hv]; show Value.pointer (filePtr D.bs x.2) = _; rw [hfp]⟩
          · exact .inr ⟨c, hcm, hcn, hfp⟩
      have htot : ∀ seen : List Nat, ms (fun e : Ent Nat => if e.born ∈ seen then lenAt D.fs e.k else 0) lu ≤ M.used := fun seen => by
        rw [← hused, ms_map]
        exact ms_mono (fun x => by split <;> omega) lu
      have hut : M.used ≤ M.total := by
        rw [← hused, sum_held D.fs hnod _ hwu.keys hkb]
        unfold MDisk.total
        rw [← hD.files, ms_map]
        exact ms_mono (fun x => by split <;> omega) D.fs
      refine ⟨fun n σ w6 => ∃ seen : List Nat, n = lu.length - cnt seen lu ∧ σ.1 = ((ms (fun e : Ent Nat => if e.born ∈ seen then lenAt D.fs e.k else 0) lu : Nat) : Int) ∧ Sep E w6 (iterC it2 m1 cu seen :: setM m1 lu cu :: (G ++ (D.chunks M d ++ L))), _, ⟨[], rfl, ?_, hS5⟩, ?_⟩
      · have : ms (fun e : Ent Nat => if e.born ∈ ([] : List Nat) then lenAt D.fs e.k else 0) lu = 0 := ms_zero fun x _ => by simp
        rw [this]
        rfl
      rintro n ⟨σ, _⟩ w6 ⟨seen, rfl, hσ, hS6⟩ _
      dsimp only at hσ ⊢
      subst hσ
      refine hS6.next (m := m1) (l := lu) (kv := ptrV) List.mem_cons_self hwu.born (fun hall => ?_) (fun e he hes w7 hS7 => ?_)
      · have : ms (fun e : Ent Nat => if e.born ∈ seen then lenAt D.fs e.k else 0) lu = M.used := by
          rw [← hused, ms_map]
          exact ms_congr fun x hx => by rw [if_pos (hall x hx)]
        rw [this]
        exact ⟨iterC it2 m1 cu seen :: setM m1 lu cu :: G, rfl, hS6⟩
      · have hev : e.v = .bool true := hvu e he
        have hent := hS7.entry (it := it2) (m := m1) (l := lu) (kv := ptrV) List.mem_cons_self (List.mem_cons_of_mem _ List.mem_cons_self) he hwu.borns
        rw [hev] at hent
        refine ⟨some ⟨e.k, 0, none⟩, true, hent, ?_⟩
        obtain ⟨r, hr, hrb⟩ := List.mem_map.1 (hkb e.k (List.mem_map.2 ⟨e, he, rfl⟩))
        have hm : fChunk r ∈ iterC it2 m1 cu (seen ++ [e.born]) :: setM m1 lu cu :: (G ++ (D.chunks M d ++ L)) := by
          simp only [DS.chunks, List.mem_cons, List.mem_append, List.mem_map]
          exact .inr (.inr (.inr (.inl (.inr (.inr (.inr (.inr ⟨r, hr, rfl⟩)))))))
        refine ⟨r.s, ?_, lu.length - cnt (seen ++ [e.born]) lu, cnt_step he hwu.borns hes, seen ++ [e.born], rfl, ?_, hS7⟩
        · rw [← hrb]
          exact hS7.load (o := 0) hm rfl (by kernel_rfl)
        · have hst := ms_seen (fun e : Ent Nat => lenAt D.fs e.k) seen lu e he hwu.borns hes
          have hle := htot (seen ++ [e.born])
          have hsz := (hD.bytes r hr).size
          have hl := lenAt_of hnod hr
          rw [hrb] at hl
          rw [hst] at hle ⊢
          rw [hsz, w64 (by omega) (by omega), hl]
          rfl
  · obtain ⟨i, hf, hi, hv⟩ := hD.kept.ent he
    have hent := hS4.entry (it := it) (m := D.mq) (l := D.lk) (kv := Value.string) List.mem_cons_self (by simp [DS.chunks]) he hD.kept.wf.borns
    rw [hv] at hent
    refine ⟨e.k, _, hent, ?_⟩
    have hS4' : Sep E w4 (setM m1 lu cu :: ([iterC it D.mq D.ck (seen ++ [e.born])] ++ (D.chunks M d ++ L))) := hS4.weak (by intro f; simp only [ms_append, ms_cons, ms_nil]; omega)
    obtain ⟨w5, l', c', h5, hw', hv', hk', hS5⟩ := hS4'.put hwu hkb hvu (List.getElem_mem hi)
    rw [filePtr_some hi]
    refine ⟨w5, h5, _, cnt_step he hD.kept.wf.borns hes, seen ++ [e.born], l', c', rfl, hw', hv', fun b => ?_, hS5.weak (by intro f; simp only [ms_append, ms_cons, ms_nil]; omega)⟩
    rw [hk', hku]
    constructor
    · rintro (⟨e', h1, h2, h3⟩ | rfl)
      · exact ⟨e', h1, by simp [h2], h3⟩
      · exact ⟨e, he, by simp, by rw [hv, filePtr_some hi]⟩
    · rintro ⟨e', h1, h2, h3⟩
      rcases List.mem_append.1 h2 with h2 | h2
      · exact .inl ⟨e', h1, h2, h3⟩
      · rw [List.mem_singleton] at h2
        have := born_inj hD.kept.wf.borns h1 he h2
        subst this
        rw [hv, filePtr_some hi] at h3
        simp only [Value.pointer.injEq, Option.some.injEq, Addr.mk.injEq, and_true] at h3
        exact .inr h3.symm

theorem ready_total (M : MDisk) : M.ready.2.total = M.total := by
  unfold MDisk.total
  rw [(ready_same M).1]

theorem total_at {M : MDisk} {f : MFile} (h : f ∈ M.files) : f.bytes.length ≤ M.total := ms_pos (f := fun f : MFile => f.bytes.length) h

theorem used_le (M : MDisk) : M.used ≤ M.total := by
  have : ∀ (fs : List MFile) (i : Nat), M.usedTo i fs ≤ ms (fun f => f.bytes.length) fs := fun fs => by
    induction fs with
    | nil => exact fun _ => Nat.le_refl _
    | cons f fs ih =>
      intro i
      have := ih (i + 1)
      unfold MDisk.usedTo
      rw [ms_cons]
      split <;> omega
  exact this M.files 0

/-- Append. -/
theorem k33 {E w : World} {L I : List Chunk} {M : MDisk} {D : DS} {d : Nat} (hl : M.left ≤ 9223372036854775807) (hS : Sep E w (D.chunks M d ++ L)) (hD : DRep D M I) (hT : M.total ≤ 549755813888) (hc : M.changes.length ≤ 1099511627776) (hI : ∀ c ∈ I, c ∈ L) (n : ByteArray) {x : SV} {b : List UInt8} (hx : RdB L x b) (hb : b.length ≤ 549755813888) :
    Calls Pr 33 #[.pointer (some ⟨d, 0, none⟩), .string n, .slice x.a x.len x.cap] w fun e w' => ∃ (D' : DS) (C : List Chunk), e = .returned (.int .i64 (M.append n b).1) ∧ DRep D' (M.append n b).2 (C ++ I) ∧ Sep E w' (D'.chunks (M.append n b).2 d ++ (C ++ L)) := by
  refine call33 ?_
  unfold ir33
  refine (k87 hl hS hD n).mono ?_
  rintro _ w1 ⟨rfl, hS1⟩
  have hD1 := hD.ready
  have hst := ready_same M
  have hT1 : M.ready.2.total ≤ 549755813888 := by rw [ready_total]; exact hT
  refine ⟨_, _, rfl, ?_⟩
  unfold MDisk.append
  rcases find_cases M n with ⟨e, he, hf⟩ | ⟨i, hf, hi⟩
  · rw [hf]
    exact brc_true (by simpa using he) ⟨D, [], rfl, hD1, hS1⟩
  · rw [hf]
    refine brc_false rfl ?_
    obtain ⟨A, r, B, hfs, hA, hp, hfa, hr⟩ := hD1.file (hD1.now.ids n i hi)
    simp only [Option.bind_some, hp]
    refine ⟨fun w => Sep E w (D.chunks M.ready.2 d ++ L), hS1.drew, (M.ready.2.room : Int), fun w hw => hw.load (o := 3) (D.dmem _ _ _) rfl (by kernel_rfl), ?_⟩
    refine (k40 hS1.drew hD1 (by omega) (by rw [hst.2.2.2.1]; exact hc)).mono ?_
    rintro _ w2 ⟨C, rfl, hS2⟩
    refine ⟨_, rfl, fun w => w = w2, ?_, rfl, ?_⟩
    · rintro w rfl
      exact hS2.weak (by intro f; simp only [ms_append, ms_cons, ms_nil]; omega)
    have hxs := hx.size
    have hul := used_le M.ready.2
    rw [w64 (by omega) (by omega)]
    refine brc_intro (fun h => ?_) (fun h => ?_)
    · have h : M.ready.2.used + b.length > M.ready.2.room := by simp at h; omega
      simp only [h, if_true]
      refine ⟨D, C, by trivial, hD1.right C, hS2.weak (by intro f; simp only [ms_append, ms_cons, ms_nil]; omega)⟩
    · have h : ¬ M.ready.2.used + b.length > M.ready.2.room := by simp at h; omega
      simp only [h, if_false]
      have hm : fChunk r ∈ C ++ (D.chunks M.ready.2 d ++ L) := by simp [DS.chunks, hfs]
      refine ⟨r.s, hS2.load (o := 0) hm rfl (by kernel_rfl), ?_⟩
      have hrb : r.f.bytes.length ≤ 549755813888 := by
        refine Nat.le_trans (total_at ?_) hT1
        rw [← hD1.files]
        exact List.mem_map.2 ⟨r, hr, rfl⟩
      obtain ⟨s2, w3, h3, hc3⟩ := hS2.join ((((hD1.bytes r hr).mono hI).right _).right _) ((hx.right _).right _) (by omega)
      refine ⟨s2, w3, h3, hc3.mono ?_⟩
      rintro _ w4 ⟨s3, C3, rfl, hr3, hS4⟩
      refine ⟨s3, rfl, ?_⟩
      have hS5 : Sep E w4 (fChunk r :: (dChunk M.ready.2 d D.mn D.mq D.cs :: strM D.mn D.ln D.cn :: strM D.mq D.lk D.ck :: (D.CC ++ (A.map fChunk ++ B.map fChunk)) ++ (C3 ++ (C ++ L)))) := by
        refine hS4.weak ?_
        intro f
        simp only [DS.chunks, hfs, ms_append, ms_cons, ms_nil, List.map_append, List.map_cons, List.map_nil]
        omega
      obtain ⟨w5, h5, hS6⟩ := hS5.store (o := 0) (n := 1) (v := slV s3) (t := 26) (by kernel_rfl) rfl (by simp) (by simp [Value.cells, Value.oneCell'])
      refine ⟨w5, h5, _, C3 ++ C, by trivial, hA ▸ (hD1.right (C3 ++ C)).turn hfs (s := s3) (fun f => ⟨f.bytes ++ b, f.kept⟩) (((hr3.left _).left _)), ?_⟩
      have hS6' : Sep E w5 (fChunk ⟨r.b, s3, ⟨r.f.bytes ++ b, r.f.kept⟩⟩ :: (dChunk M.ready.2 d D.mn D.mq D.cs :: strM D.mn D.ln D.cn :: strM D.mq D.lk D.ck :: (D.CC ++ (A.map fChunk ++ B.map fChunk)) ++ (C3 ++ (C ++ L)))) := hS6
      refine hS6'.weak ?_
      intro f
      simp only [DS.chunks, dChunk_set, ms_append, ms_cons, ms_nil, List.map_append, List.map_cons, List.map_nil]
      omega

end Go.Proofs.Ytonjaaljnjjjcaa
