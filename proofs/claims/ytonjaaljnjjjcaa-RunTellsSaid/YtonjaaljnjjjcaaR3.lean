/- Runs: the reference's bytes, the reader of none. Conditions: as each lemma says. -/
import Derived.Test.YtonjaaljnjjjcaaR2
import Derived.Test.YtonjaaljnjjjcaaC4
set_option linter.unusedVariables false
set_option linter.unusedSimpArgs false
namespace Go.Proofs.Ytonjaaljnjjjcaa
open Go Go.RowKit

def runL (ls : List (List UInt8)) : List UInt8 := (ls.map frameL).flatten

theorem runL_len (ls : List (List UInt8)) (h : ∀ l ∈ ls, l.length ≤ 4096) : (runL ls).length ≤ 5000 * ls.length := by
  induction ls with
  | nil => simp [runL]
  | cons l ls ih =>
    have h1 := h l List.mem_cons_self
    have h2 := ih fun x hx => h x (List.mem_cons_of_mem _ hx)
    simp only [runL, List.map_cons, List.flatten_cons, List.length_append, frameL_len, List.length_cons] at h2 ⊢
    omega

/-- creelref13.Bytes. -/
theorem k66 {E w : World} {L : List Chunk} {s : SV} {ss : List SV} {ls : List (List UInt8)} (hS : Sep E w L) (hr : RdS L 1 s (ss.map slV)) (hs : RdBs L ss ls) (hn : ls.length ≤ 1000000) (hb : ∀ l ∈ ls, l.length ≤ 4096) :
    Calls Pr 66 #[.slice s.a s.len s.cap] w fun e w' => ∃ (s' : SV) (C : List Chunk), e = .returned (.slice s'.a s'.len s'.cap) ∧ RdB C s' (runL ls) ∧ Sep E w' (C ++ L) := by
  refine call66 ?_
  unfold ir66
  have hsz : s.len = ls.length := by rw [hr.len1, List.length_map, hs.1]
  refine ⟨fun n σ w3 => ∃ (k : Nat) (C : List Chunk), k ≤ ls.length ∧ n = ls.length - k ∧ σ.1 = (k : Int) ∧ RdB C σ.2.1 (runL (ls.take k)) ∧ Sep E w3 (C ++ L), ls.length, ⟨0, [], Nat.zero_le _, rfl, rfl, RdS.none _ _, hS⟩, ?_⟩
  rintro n ⟨i, s3, u⟩ w3 ⟨k, C, hk, rfl, hi, ho, hS3⟩ _
  dsimp only at hi ho ⊢
  subst hi
  refine brc_intro (fun h => ?_) (fun h => ?_)
  · have h : k < ls.length := by simp at h; omega
    obtain ⟨x, l, hx, hl, hrx, _⟩ := hs.at_ h
    obtain ⟨a, ha, hat⟩ := hr.idx (i := k) (v := slV x) (by simp [hx]) hS3 (fun c hc => List.mem_append_right _ hc) (t := 26) (by kernel_rfl)
    refine ⟨⟨by omega, by omega⟩, ?_⟩
    rw [ha]
    refine ⟨x, by simpa using hat, ?_⟩
    have hrl := runL_len (ls.take k) fun l hl => hb l (List.mem_of_mem_take hl)
    have hll : l.length ≤ 4096 := hb l (List.mem_of_getElem? hl)
    rw [List.length_take] at hrl
    refine (k70 hS3 (ho.left L) (hrx.right C) (by omega) hll).mono ?_
    rintro _ w4 ⟨s4, C4, rfl, hr4, hS4⟩
    refine ⟨s4, 0, rfl, ls.length - (k + 1), by omega, k + 1, C4 ++ C, by omega, rfl, ?_, ?_, by rw [List.append_assoc]; exact hS4⟩
    · rw [w64 (by omega) (by omega)]
      rfl
    · have : runL (ls.take (k + 1)) = runL (ls.take k) ++ frameL l := by
        rw [List.take_add_one, hl]
        simp [runL]
      rw [this]
      exact hr4.left C
  · have h : k = ls.length := by simp at h; omega
    subst h
    rw [List.take_length] at ho
    exact ⟨s3, C, rfl, ho, hS3⟩

theorem z34 : (Pr.info? 34).bind (·.zero) = some (.agg #[.slice none 0 0, .bool false]) := by kernel_rfl

/-- Next of none. -/
theorem k21n {E w : World} {L : List Chunk} (hS : Sep E w L) : Calls Pr 21 #[.pointer none] w fun e w' => e = .returned (.tuple #[.agg #[.slice none 0 0, .bool false], .int .i64 2]) ∧ ∃ C, Sep E w' (C ++ L) := by
  refine call21 ?_
  unfold ir21
  obtain ⟨b, w1, h1, hS1⟩ := hS.alloc (t := 34) z34
  refine ⟨_, w1, h1, brc_true rfl ?_⟩
  obtain ⟨w2, h2, hS2⟩ := hS1.store (o := 0) (n := 2) (v := .agg #[.slice none 0 0, .bool false]) (t := 34) (by kernel_rfl) rfl (by simp) (by simp [Value.cells, Value.oneCell'])
  exact ⟨w2, h2, SV.nil, false, hS2.loadS (o := 0) (n := 2) List.mem_cons_self (by kernel_rfl) (by kernel_rfl) rfl (by simp [spl, Value.cells]), rfl, [_], hS2⟩

theorem k22n {w : World} (x : SV) : Calls Pr 22 #[.pointer none, .slice x.a x.len x.cap] w fun e w' => e = .returned (.int .i64 2) ∧ w' = w := by
  refine call22 ?_
  unfold ir22
  exact brc_true rfl ⟨rfl, rfl⟩
theorem k23n {w : World} (n : ByteArray) : Calls Pr 23 #[.pointer none, .string n] w fun e w' => e = .returned (.int .i64 2) ∧ w' = w := by
  refine call23 ?_
  unfold ir23
  exact brc_true rfl ⟨rfl, rfl⟩
theorem k24n {w : World} : Calls Pr 24 #[.pointer none] w fun e w' => e = .returned (.int .i64 0) ∧ w' = w := by
  refine call24 ?_
  unfold ir24
  exact brc_true rfl ⟨rfl, rfl⟩

/-- A literal's bytes, converted: the block is marked. -/
theorem Sep.conv {E w : World} {L : List Chunk} {b n : Nat} {cs : Array Value} (hS : Sep E w ((b, .cells cs 5 (0, 0)) :: L)) :
    ∃ w' fr, Sem.run Pr (convert 26 26 (.slice (some ⟨b, 0, none⟩) n n)) w = .ok (.slice (some ⟨b, 0, none⟩) n n) w' ∧ Sep E w' ((b, .cells cs 5 fr) :: L) := by
  have hb := hS.at_ _ List.mem_cons_self
  have hlt := hS.lt List.mem_cons_self
  simp only at hb hlt
  have h := tiB.und
  have he : Pr.underlying 5 = some (.int .u8) := by kernel_rfl
  refine ⟨w.freeze ⟨b, cs.size, none⟩ 1, (cs.size, cs.size + 1), ?_, ?_⟩
  · simp only [convert, Sem.run_bind, run_underlying h, run_underlying he, Result.andThen_ok]
    simp [markStringish, World.shape?, hb, run_underlying he]
  · refine hS.turn rfl rfl rfl ?_ ?_
    · simp [World.freeze, Array.getElem?_modify, hb]
    · intro i hi
      simp [World.freeze, Array.getElem?_modify, Ne.symm hi]

theorem Sep.str {E w : World} {L : List Chunk} (hS : Sep E w L) (c : Nat) :
    ∃ (s : SV) (w1 : World), Sem.run Pr (Instr.buildSlice 26 1 #[(0, .int .u8 ((c % 256 : Nat) : Int))]) w = .ok (.slice s.a s.len s.cap) w1 ∧ ∃ (w2 : World) (C : List Chunk), Sem.run Pr (convert 26 26 (.slice s.a s.len s.cap)) w1 = .ok (.slice s.a s.len s.cap) w2 ∧ RdB C s [UInt8.ofNat c] ∧ Sep E w2 (C ++ L) := by
  obtain ⟨b, w1, h1, hS1⟩ := hS.buildSlice (t := 26) (T := 5) (len := 1) (parts := [(0, .int .u8 ((c % 256 : Nat) : Int))]) (vs := [.int .u8 ((c % 256 : Nat) : Int)]) (by kernel_rfl) (by kernel_rfl)
  obtain ⟨w2, fr, h2, hS2⟩ := hS1.conv (n := 1)
  refine ⟨⟨some ⟨b, 0, none⟩, 1, 1⟩, w1, h1, w2, [_], h2, ?_, hS2⟩
  refine ⟨rfl, Nat.le_refl _, (fun h => by cases h), fun a ha => ?_⟩
  injection ha with ha
  subst ha
  refine .inr ⟨rfl, _, 5, fr, List.mem_cons_self, fun j u hu => ?_⟩
  rw [List.map_cons, List.map_nil, byteV_ofNat] at hu
  simpa using hu

/-! ### What is shown -/
def sh0 : MDisk := (startM (MDisk.new 100)).2
def sh1 : MDisk := (addM sh0 none [97]).2.1
def sh2 : MDisk := (addM sh1 (some [97]) [98]).2.1
def sh3 : MDisk := (endM sh2 ⟨#[120]⟩).2
theorem sh_start : (startM (MDisk.new 100)).1 = 0 := by decide
theorem sh_a : (addM sh0 none [97]).1 = 0 ∧ (addM sh0 none [97]).2.2 = some [97] := by decide
theorem sh_aa : addM sh1 (some [97]) [97] = (130, sh1, some [97]) := by
  have h : rises (some [97]) [97] = false := by decide
  simp [addM, h]
theorem sh_b : (addM sh1 (some [97]) [98]).1 = 0 ∧ (addM sh1 (some [97]) [98]).2.2 = some [98] := by decide
theorem sh_end : (endM sh2 ⟨#[120]⟩).1 = 0 := by decide
theorem sh_read : (sh3.read ⟨#[120]⟩).1 = 0 ∧ (sh3.read ⟨#[120]⟩).2.1 = runL [[97], [98]] := ⟨by kernel_rfl, by kernel_rfl⟩

end Go.Proofs.Ytonjaaljnjjjcaa
