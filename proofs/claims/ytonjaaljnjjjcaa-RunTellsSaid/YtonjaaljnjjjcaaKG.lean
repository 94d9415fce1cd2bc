/- Frames, taken: the reference's. Conditions: as each lemma says. -/
import Derived.Test.YtonjaaljnjjjcaaKD
set_option linter.unusedVariables false
set_option linter.unusedSimpArgs false
namespace Go.Proofs.Ytonjaaljnjjjcaa
open Go Go.RowKit

theorem wrapu {n : Nat} (h : n < 72057594037927936) (b : UInt8) : IntKind.wrap .u64 ((IntKind.wrap .u64 (((n : Nat) : Int) * 256)) + (IntKind.wrap .u64 ((b.toNat : Nat) : Int))) = ((n * 256 + b.toNat : Nat) : Int) := by
  have hb := b.toNat_lt
  rw [IntKind.wrap_u64, IntKind.wrap_u64, IntKind.wrap_u64]
  omega

/-- creelref01.Unfix of four bytes. -/
theorem k157 {E w : World} {L : List Chunk} {s : SV} {l : List UInt8} (hS : Sep E w L) (hr : RdB L s l) (hb : l.length ≤ 1099511627776) :
    Calls Pr 157 #[.slice s.a s.len s.cap, .int .i64 4] w fun e w' => ∃ (s' : SV) (C : List Chunk), Sep E w' (C ++ L) ∧
      ((l.length < 4 ∧ e = .returned (.tuple #[.int .u64 0, .slice none 0 0, .int .i64 5])) ∨ (4 ≤ l.length ∧ e = .returned (.tuple #[.int .u64 ((beVal (l.take 4) : Nat) : Int), .slice s'.a s'.len s'.cap, .int .i64 0]))) := by
  refine call157 ?_
  unfold ir157
  have hsz := hr.size
  have hcap := hr.cap
  refine brc_false (by decide) (brc_false (by decide) (brc_intro (fun h => ?_) (fun h => ?_)))
  · have h : l.length < 4 := by simp at h; omega
    exact ⟨SV.nil, [], hS, .inl ⟨h, rfl⟩⟩
  have h4 : 4 ≤ l.length := by simp at h; omega
  refine ⟨fun n σ w1 => ∃ k : Nat, k ≤ 4 ∧ n = 4 - k ∧ σ = ((k : Int), ((beVal (l.take k) : Nat) : Int), ()) ∧ w1 = w, 4, ⟨0, by omega, rfl, rfl, rfl⟩, ?_⟩
  rintro n σ w1 ⟨k, hk, rfl, rfl, rfl⟩ _
  dsimp only
  refine brc_intro (fun h => ?_) (fun h => ?_)
  · have h : k < 4 := by simp at h; omega
    have hv : l[k]? = some l[k] := List.getElem?_eq_getElem (by omega)
    obtain ⟨a, ha, hat⟩ := RdS.idxU hr (i := k) (v := byteV l[k]) (by rw [List.getElem?_map, hv]; rfl) (t := 5) (by kernel_rfl)
    refine ⟨⟨by omega, by omega⟩, ?_⟩
    rw [ha]
    refine ⟨((l[k].toNat : Nat) : Int), hat hS fun c hc => hc, 4 - (k + 1), by omega, k + 1, by omega, rfl, ?_, rfl⟩
    have hlt := beVal_lt 3 (l.take k) (by simp; omega)
    rw [wrapu (by omega), w64 (by omega) (by omega)]
    have ht : l.take (k + 1) = l.take k ++ [l[k]] := by rw [List.take_add_one, hv]; rfl
    rw [ht, beVal_snoc]
    rfl
  · have h : k = 4 := by simp at h; omega
    subst h
    obtain ⟨s1, w2, C1, h2, ho1, hS1⟩ := hS.litB (n := 0) (parts := []) (l := []) rfl (by omega) (by kernel_rfl)
    refine ⟨s1, w2, h2, ⟨by omega, by omega⟩, ?_⟩
    have hd := hr.cut (l := 4) (h := s.len) (m := s.cap) (by omega) (Nat.le_refl _) hcap (Nat.le_refl _)
    obtain ⟨s2, w3, C2, h3, ho2, hS2⟩ := hS1.appB (ty := 26) ho1 (hd.right C1) (by simp; omega)
    exact ⟨s2, w3, h3, s2, C2, hS2, .inr ⟨h4, rfl⟩⟩

/-- creelref03.Unseal. -/
theorem k158 {E w : World} {L : List Chunk} {s : SV} {l : List UInt8} (hS : Sep E w L) (hr : RdB L s l) (h4 : 4 ≤ l.length) (hb : l.length ≤ 1000000000000) :
    Calls Pr 158 #[.slice s.a s.len s.cap] w fun e w' => ∃ (s' : SV) (C : List Chunk), Sep E w' (C ++ L) ∧ e = .returned (.tuple #[.slice s'.a s'.len s'.cap, .int .i64 (if sealedF l = true then 0 else 6)]) := by
  refine call158 ?_
  unfold ir158
  have hsz := hr.size
  have hcap := hr.cap
  refine brc_false (by rw [hsz]; exact decide_eq_false (by omega)) ?_
  obtain ⟨s1, w1, C1, h1, ho1, hS1⟩ := hS.litB (n := 0) (parts := []) (l := []) rfl (by omega) (by kernel_rfl)
  refine ⟨s1, w1, h1, ?_⟩
  have hw : IntKind.wrap .i64 (((s.len : Nat) : Int) - 4) = ((l.length - 4 : Nat) : Int) := by rw [w64 (by omega) (by omega)]; omega
  rw [hw]
  refine ⟨⟨by omega, by omega⟩, ?_⟩
  have hc := hr.cut (l := 0) (h := l.length - 4) (m := s.cap) (by omega) (by omega) (by omega) (Nat.le_refl _)
  rw [List.drop_zero, Nat.sub_zero] at hc
  rw [Int.toNat_natCast]
  obtain ⟨s2, w2, C2, h2, ho2, hS2⟩ := hS1.appB (ty := 26) ho1 (hc.right C1) (by simp; omega)
  refine ⟨s2, w2, h2, ?_⟩
  refine ⟨fun w => Sep E w L, hS2.drew.weak (by intro f; simp only [ms_append, ms_cons, ms_nil]; omega), _, fun w hw => hw.toStr hr (fun c hc => hc) (by kernel_rfl) (by kernel_rfl), ?_⟩
  rw [List.nil_append] at ho2
  refine (k128 hS2.drew (ho2.rdl L) (by simp; omega)).mono ?_
  rintro _ w3 ⟨s3, C3, rfl, hr3, hS3⟩
  refine ⟨s3, rfl, fun w => Sep E w (C3 ++ L), fun w hw => hw.weak (by intro f; simp only [ms_append, ms_cons, ms_nil]; omega), hS3.weak (by intro f; simp only [ms_append, ms_cons, ms_nil]; omega), _, fun w hw => hw.toStr hr3 (fun c hc => by simp [hc]) (by kernel_rfl) (by kernel_rfl), ?_⟩
  rw [str_eq]
  have hse : sealedF l = decide (sealL (l.take (l.length - 4)) = l) := rfl
  refine brc_intro (fun h => ?_) (fun h => ?_)
  · have h : ¬ sealL (l.take (l.length - 4)) = l := by simpa using h
    refine ⟨SV.nil, C3 ++ C2, by simpa using hS3, ?_⟩
    rw [hse, decide_eq_false h]
    rfl
  · have h : sealL (l.take (l.length - 4)) = l := by simpa using h
    refine ⟨s2, C3 ++ C2, by simpa using hS3, ?_⟩
    rw [hse, decide_eq_true h]
    rfl

/-- creelref03.Take. -/
theorem k139 {E w : World} {L : List Chunk} {s : SV} {l : List UInt8} (hS : Sep E w L) (hr : RdB L s l) (hb : l.length ≤ 1000000000000) :
    Calls Pr 139 #[.slice s.a s.len s.cap] w fun e w' => ∃ (s1 s2 : SV) (C : List Chunk), Sep E w' (C ++ L) ∧ e = .returned (.tuple #[.slice s1.a s1.len s1.cap, .slice s2.a s2.len s2.cap, .int .i64 (takeF l).1]) ∧
      ((takeF l).1 = 0 → RdB C s1 (takeF l).2.1 ∧ RdB C s2 (l.drop (takeF l).2.2)) := by
  refine call139 ?_
  unfold ir139
  have hsz := hr.size
  have hcap := hr.cap
  refine (k157 hS hr (by omega)).mono ?_
  rintro _ w1 ⟨s', C1, hS1, h | h⟩
  · obtain ⟨h4, rfl⟩ := h
    have ht : takeF l = (5, [], 0) := by simp [takeF, spanF, h4]
    rw [ht]
    exact ⟨0, SV.nil, 5, rfl, brc_true rfl ⟨SV.nil, SV.nil, C1, hS1, rfl, fun h => absurd h (by decide)⟩⟩
  obtain ⟨h4, rfl⟩ := h
  have h4' : ¬ l.length < 4 := by omega
  have hv := beVal_lt 4 (l.take 4) (by simp; omega)
  have hsp : spanF l = if beVal (l.take 4) > 4096 then (6, 0) else if l.length < 8 + beVal (l.take 4) then (5, 0) else (0, 4 + beVal (l.take 4)) := by
    unfold spanF
    rw [if_neg h4']
  generalize hn : beVal (l.take 4) = n at *
  refine ⟨_, s', 0, rfl, brc_false rfl (brc_intro (fun h => ?_) (fun h => ?_))⟩
  · have h : n > 4096 := by simp at h; omega
    rw [if_pos h] at hsp
    have ht : takeF l = (6, [], 0) := by simp [takeF, hsp]
    rw [ht]
    exact ⟨SV.nil, SV.nil, C1, hS1, rfl, fun h => absurd h (by decide)⟩
  have h : ¬ n > 4096 := by simp at h; omega
  rw [if_neg h] at hsp
  have hw0 : IntKind.wrap .i64 ((n : Nat) : Int) = ((n : Nat) : Int) := w64 (by omega) (by omega)
  have hw1 : IntKind.wrap .i64 (((n : Nat) : Int) + 4) = ((n + 4 : Nat) : Int) := by rw [w64 (by omega) (by omega)]; omega
  have hw2 : IntKind.wrap .i64 (((n + 4 : Nat) : Int) + 4) = ((n + 8 : Nat) : Int) := by rw [w64 (by omega) (by omega)]; omega
  rw [hw0, hw1, hw2]
  refine brc_intro (fun h2 => ?_) (fun h2 => ?_)
  · have h2 : l.length < 8 + n := by simp at h2; omega
    rw [if_pos h2] at hsp
    have ht : takeF l = (5, [], 0) := by simp [takeF, hsp]
    rw [ht]
    exact ⟨SV.nil, SV.nil, C1, hS1, rfl, fun h => absurd h (by decide)⟩
  have h2 : ¬ l.length < 8 + n := by simp at h2; omega
  rw [if_neg h2] at hsp
  refine ⟨⟨by omega, by omega⟩, ?_⟩
  have hc := hr.cut (l := 0) (h := n + 8) (m := s.cap) (by omega) (by omega) (by omega) (Nat.le_refl _)
  rw [List.drop_zero, Nat.sub_zero] at hc
  simp only [Int.toNat_natCast]
  refine (k158 hS1 (hc.right C1) (by simp; omega) (by simp; omega)).mono ?_
  rintro _ w2 ⟨s2, C2, hS2, rfl⟩
  have htk : takeF l = if sealedF (l.take (n + 8)) = false then (6, [], 0) else (0, (l.take (4 + n)).drop 4, n + 8) := by
    unfold takeF
    rw [hsp]
    have : 4 + n + 4 = n + 8 := by omega
    simp only [this, ne_eq, not_true_eq_false, if_false]
  refine ⟨s2, _, rfl, ?_⟩
  cases hse : sealedF (l.take (n + 8)) with
  | false =>
    rw [hse, if_pos rfl] at htk
    rw [htk]
    exact brc_true rfl ⟨SV.nil, SV.nil, C2 ++ C1, by simpa using hS2, rfl, fun h => absurd h (by decide)⟩
  | true =>
    rw [hse, if_neg (by simp)] at htk
    rw [htk]
    refine brc_false rfl ⟨fun _ => True, trivial, ⟨by omega, by omega⟩, ⟨by omega, by omega⟩, ⟨by omega, by omega⟩, ?_⟩
    have hd := hr.cut (l := 4) (h := n + 4) (m := s.cap) (by omega) (by omega) (by omega) (Nat.le_refl _)
    have e : (l.drop 4).take (n + 4 - 4) = (l.take (4 + n)).drop 4 := by rw [List.drop_take]; congr 1; omega
    rw [e] at hd
    have hd2 := hr.cut (l := n + 8) (h := s.len) (m := s.cap) (by omega) (Nat.le_refl _) hcap (Nat.le_refl _)
    rw [List.take_of_length_le (l := l.drop (n + 8)) (by simp; omega)] at hd2
    have e4 : Int.toNat 4 = 4 := rfl
    rw [e4]
    have l1 : ((l.take (4 + n)).drop 4).length ≤ 35184372088832 := by simp; omega
    have l2 : (l.drop (n + 8)).length ≤ 35184372088832 := by simp; omega
    have hSd := hS2.drew
    generalize hLL : C2 ++ (C1 ++ L) = LL at hSd
    have hmem : ∀ c ∈ L, c ∈ LL := fun c hc => by rw [← hLL]; simp [hc]
    have fin : ∀ (w : World) (C3 C4 : List Chunk) (sa sb : SV), Sep E w (C4 ++ (C3 ++ LL)) → RdB (C4 ++ C3) sa ((l.take (4 + n)).drop 4) → RdB (C4 ++ C3) sb (l.drop (n + 8)) →
        ∃ (s1 s2 : SV) (C : List Chunk), Sep E w (C ++ L) ∧ Ending.returned (.tuple #[.slice sa.a sa.len sa.cap, .slice sb.a sb.len sb.cap, .int .i64 0]) = .returned (.tuple #[.slice s1.a s1.len s1.cap, .slice s2.a s2.len s2.cap, .int .i64 ((0 : Int), (l.take (4 + n)).drop 4, n + 8).1]) ∧
          (((0 : Int), (l.take (4 + n)).drop 4, n + 8).1 = 0 → RdB C s1 ((l.take (4 + n)).drop 4) ∧ RdB C s2 (l.drop (n + 8))) := by
      intro w C3 C4 sa sb hS h1 h2
      refine ⟨sa, sb, (C4 ++ C3) ++ (C2 ++ C1), hS.weak (by rw [← hLL]; intro f; simp only [ms_append]; omega), rfl, fun _ => ⟨h1.left _, h2.left _⟩⟩
    refine ⟨?_, ?_⟩
    · obtain ⟨s3, w3, C3, e3, o3, S3⟩ := hSd.litB (n := 0) (parts := []) (l := []) rfl (by omega) (by kernel_rfl)
      refine ⟨s3, w3, e3, fun _ => True, trivial, ?_, ?_⟩
      · obtain ⟨s4, w4, C4, e4, o4, S4⟩ := S3.appB (ty := 26) o3 ((hd.mono hmem).right C3) (by simpa using l1)
        refine ⟨s4, w4, e4, fun _ => True, trivial, ?_⟩
        obtain ⟨s5, w5, C5, e5, o5, S5⟩ := S4.litB (n := 0) (parts := []) (l := []) rfl (by omega) (by kernel_rfl)
        refine ⟨s5, w5, e5, fun _ => True, trivial, ?_⟩
        obtain ⟨s6, w6, C6, e6, o6, S6⟩ := S5.appB (ty := 26) o5 (((hd2.mono hmem).right C4).right C5) (by simpa using l2)
        rw [List.nil_append] at o4 o6
        exact ⟨s6, w6, e6, fun _ => True, trivial, fin w6 C4 C6 s4 s6 S6 (o4.rds.right C6) (o6.rdl C4)⟩
      · obtain ⟨s5, w5, C5, e5, o5, S5⟩ := S3.litB (n := 0) (parts := []) (l := []) rfl (by omega) (by kernel_rfl)
        refine ⟨s5, w5, e5, fun _ => True, trivial, ?_⟩
        have S5' : Sep E w5 (C3 ++ (C5 ++ LL)) := S5.weak (by intro f; simp only [ms_append, ms_cons, ms_nil]; omega)
        obtain ⟨s4, w4, C4, e4, o4, S4⟩ := S5'.appB (ty := 26) o3 (((hd.mono hmem).right C5).right C3) (by simpa using l1)
        refine ⟨s4, w4, e4, fun _ => True, trivial, ?_⟩
        have S4' : Sep E w4 (C5 ++ (C4 ++ LL)) := S4.weak (by intro f; simp only [ms_append, ms_cons, ms_nil]; omega)
        obtain ⟨s6, w6, C6, e6, o6, S6⟩ := S4'.appB (ty := 26) o5 (((hd2.mono hmem).right C4).right C5) (by simpa using l2)
        rw [List.nil_append] at o4 o6
        exact ⟨s6, w6, e6, fun _ => True, trivial, fin w6 C4 C6 s4 s6 S6 (o4.rds.right C6) (o6.rdl C4)⟩
    · obtain ⟨s5, w5, C5, e5, o5, S5⟩ := hSd.litB (n := 0) (parts := []) (l := []) rfl (by omega) (by kernel_rfl)
      refine ⟨s5, w5, e5, fun _ => True, trivial, ?_⟩
      obtain ⟨s3, w3, C3, e3, o3, S3⟩ := S5.litB (n := 0) (parts := []) (l := []) rfl (by omega) (by kernel_rfl)
      refine ⟨s3, w3, e3, fun _ => True, trivial, ?_⟩
      obtain ⟨s4, w4, C4, e4, o4, S4⟩ := S3.appB (ty := 26) o3 (((hd.mono hmem).right C5).right C3) (by simpa using l1)
      refine ⟨s4, w4, e4, fun _ => True, trivial, ?_⟩
      have S4' : Sep E w4 (C5 ++ (C4 ++ LL)) := S4.weak (by intro f; simp only [ms_append, ms_cons, ms_nil]; omega)
      obtain ⟨s6, w6, C6, e6, o6, S6⟩ := S4'.appB (ty := 26) o5 (((hd2.mono hmem).right C4).right C5) (by simpa using l2)
      rw [List.nil_append] at o4 o6
      exact ⟨s6, w6, e6, fun _ => True, trivial, fin w6 C4 C6 s4 s6 S6 (o4.rds.right C6) (o6.rdl C4)⟩

/-- All frames, up to the first one that is none, and how many bytes these have. -/
def allF (l : List UInt8) : List (List UInt8) × Nat :=
  if h : (takeF l).1 = 0 then ((takeF l).2.1 :: (allF (l.drop (takeF l).2.2)).1, (takeF l).2.2 + (allF (l.drop (takeF l).2.2)).2) else ([], 0)
termination_by l.length
decreasing_by all_goals (obtain ⟨a, b, c⟩ := takeF_cnt h; simp; omega)

theorem allF_ok {l : List UInt8} (h : (takeF l).1 = 0) : allF l = ((takeF l).2.1 :: (allF (l.drop (takeF l).2.2)).1, (takeF l).2.2 + (allF (l.drop (takeF l).2.2)).2) := by
  rw [allF]
  rw [dif_pos h]
theorem allF_bad {l : List UInt8} (h : (takeF l).1 ≠ 0) : allF l = ([], 0) := by
  rw [allF]
  rw [dif_neg h]

/-- creelref03.All. -/
theorem k90 {E w : World} {L : List Chunk} {s : SV} {l : List UInt8} (hS : Sep E w L) (hr : RdB L s l) (hb : l.length ≤ 1000000000000) :
    Calls Pr 90 #[.slice s.a s.len s.cap] w fun e w' => ∃ (s' : SV) (ss : List SV) (C I G : List Chunk), e = .returned (.tuple #[.slice s'.a s'.len s'.cap, .int .i64 (((allF l).2 : Nat) : Int)]) ∧ OwnL s' ss (allF l).1 C I ∧ Sep E w' (C ++ (I ++ (G ++ L))) := by
  refine call90 ?_
  unfold ir90
  refine ⟨fun n σ w1 => ∃ (m : List UInt8) (done : List (List UInt8)) (ss : List SV) (C I G : List Chunk) (k : Nat), n = m.length ∧ σ.2.2.1 = ((k : Nat) : Int) ∧ RdB (I ++ L) σ.1 m ∧ OwnL σ.2.1 ss done C I ∧ m.length + k = l.length ∧ 8 * done.length ≤ k ∧
    allF l = (done ++ (allF m).1, k + (allF m).2) ∧ Sep E w1 (C ++ (I ++ (G ++ L))), l.length, ⟨l, [], [], [], [], [], 0, rfl, rfl, by simpa using hr, ⟨Own.nil _ _, RdBs.nil _⟩, by omega, by simp, by simp, by simpa using hS⟩, ?_⟩
  rintro n ⟨x, o, c, u⟩ w1 ⟨m, done, ss, C, I, G, k, rfl, hc, hx, ho, hmk, hdk, hall, hS1⟩ _
  dsimp only at hc hx ho ⊢
  subst hc
  refine (k139 hS1 (hx.mono fun c hc => by rcases List.mem_append.1 hc with hc | hc <;> simp [hc]) (by omega)).mono ?_
  rintro _ w2 ⟨s1, s2, C2, hS2, rfl, hrd⟩
  refine ⟨s1, s2, _, rfl, brc_intro (fun h => ?_) (fun h => ?_)⟩
  · have h : (takeF m).1 ≠ 0 := by simpa using h
    rw [allF_bad h] at hall
    simp only [List.append_nil, Nat.add_zero] at hall
    rw [hall]
    exact ⟨o, ss, C, I, C2 ++ G, rfl, ho, hS2.weak (by intro f; simp only [ms_append, ms_cons, ms_nil]; omega)⟩
  · have h : (takeF m).1 = 0 := by simpa using h
    obtain ⟨hr1, hr2⟩ := hrd h
    obtain ⟨a, b, c⟩ := takeF_cnt h
    rw [allF_ok h] at hall
    have hS2' : Sep E w2 (C ++ (C2 ++ (I ++ (G ++ L)))) := hS2.weak (by intro f; simp only [ms_append, ms_cons, ms_nil]; omega)
    have ho' : OwnL o ss done C (C2 ++ I) := ⟨ho.own, ho.rds.mono fun c hc => by simp [hc]⟩
    obtain ⟨s3, w3, e3, s4, w4, C4, G4, e4, ho4, hS4⟩ := hS2'.push1 ho' (hr1.left I) (by omega)
    refine ⟨s3, w3, e3, s4, w4, e4, (m.drop (takeF m).2.2).length, by simp; omega, m.drop (takeF m).2.2, done ++ [(takeF m).2.1], ss ++ [s1], C4, C2 ++ I, G4 ++ G, k + (takeF m).2.2, rfl, ?_, ?_, ho4, ?_, ?_, ?_, hS4.weak (by intro f; simp only [ms_append, ms_cons, ms_nil]; omega)⟩
    · have hs1 := hr1.size
      rw [hs1, w64 (n := ((k : Nat) : Int) + _) (by omega) (by omega), w64 (by omega) (by omega)]
      omega
    · exact hr2.mono fun c hc => by simp [hc]
    · simp; omega
    · simp; omega
    · rw [hall]
      simp
      omega

end Go.Proofs.Ytonjaaljnjjjcaa
