/- Contracts: sums, fixed numbers, frames of the reference. Conditions: as each lemma says. -/
import Derived.Test.YtonjaaljnjjjcaaC3
set_option linter.unusedVariables false
set_option linter.unusedSimpArgs false
namespace Go.Proofs.Ytonjaaljnjjjcaa
open Go Go.RowKit

theorem tm_nat (a b : Nat) : Int.tmod ((a : Nat) : Int) ((b : Nat) : Int) = ((a % b : Nat) : Int) := (Int.ofNat_tmod a b).symm
theorem td_nat (a b : Nat) : Int.tdiv ((a : Nat) : Int) ((b : Nat) : Int) = ((a / b : Nat) : Int) := (Int.ofNat_tdiv a b).symm
theorem tm2 (a : Nat) : Int.tmod ((a : Nat) : Int) 2 = ((a % 2 : Nat) : Int) := tm_nat a 2
theorem td2 (a : Nat) : Int.tdiv ((a : Nat) : Int) 2 = ((a / 2 : Nat) : Int) := td_nat a 2
theorem tm256 (a : Nat) : Int.tmod ((a : Nat) : Int) 256 = ((a % 256 : Nat) : Int) := tm_nat a 256
theorem td256 (a : Nat) : Int.tdiv ((a : Nat) : Int) 256 = ((a / 256 : Nat) : Int) := td_nat a 256
theorem td65536 (a : Nat) : Int.tdiv ((a : Nat) : Int) 65536 = ((a / 65536 : Nat) : Int) := td_nat a 65536
theorem td16777216 (a : Nat) : Int.tdiv ((a : Nat) : Int) 16777216 = ((a / 16777216 : Nat) : Int) := td_nat a 16777216

theorem k179 {w : World} {c : Nat} (hc : c < 4294967296) : Calls Pr 179 #[.int .u32 ((c : Nat) : Int)] w fun e w' => e = .returned (.int .u32 ((crcEntry c : Nat) : Int)) ∧ w' = w := by
  refine call179 ?_
  unfold ir179
  refine ⟨fun n σ w4 => ∃ i : Nat, i ≤ 8 ∧ n = 8 - i ∧ σ = ((i : Int), ((crcIt i c : Nat) : Int), ()) ∧ w4 = w, 8, ⟨0, by omega, rfl, rfl, rfl⟩, ?_⟩
  rintro n σ w4 ⟨i, hi, rfl, rfl, rfl⟩ _
  dsimp only
  have hlt := crcIt_lt hc i
  refine brc_intro (fun h' => ?_) (fun h' => ?_)
  · have h' : i < 8 := by simp at h'; omega
    refine ⟨by omega, ?_⟩
    rw [tm2, td2, wu32 (x := crcIt i c / 2) (by omega)]
    refine brc_intro (fun h1 => ?_) (fun h1 => ?_)
    · have h1 : crcIt i c % 2 = 1 := by simp at h1; omega
      refine ⟨by omega, 8 - (i + 1), by omega, i + 1, by omega, rfl, ?_, rfl⟩
      have := u32_xor (x := crcIt i c / 2) (y := 2197175160) (by omega) (by omega)
      have e2 : crcIt (i + 1) c = crcIt i c / 2 ^^^ 2197175160 := by
        show crcStep (crcIt i c) = _
        unfold crcStep
        rw [if_pos h1]
      rw [e2, ← this, w64 (by omega) (by omega)]
      rfl
    · have h1 : ¬ crcIt i c % 2 = 1 := by simp at h1; omega
      refine ⟨by omega, 8 - (i + 1), by omega, i + 1, by omega, rfl, ?_, rfl⟩
      have e2 : crcIt (i + 1) c = crcIt i c / 2 := by
        show crcStep (crcIt i c) = _
        unfold crcStep
        rw [if_neg h1]
      rw [e2, w64 (by omega) (by omega)]
      rfl
  · have h' : i = 8 := by simp at h'; omega
    subst h'
    exact ⟨rfl, rfl⟩

theorem k162 {E w : World} {L : List Chunk} {s : SV} {l : List UInt8} (hS : Sep E w L) (hr : RdB L s l) (hb : l.length ≤ 1099511627776) :
    Calls Pr 162 #[.int .u32 0, .slice s.a s.len s.cap] w fun e w' => e = .returned (.int .u32 ((crcSum l : Nat) : Int)) ∧ w' = w := by
  refine call162 ?_
  unfold ir162
  have hsz := hr.size
  refine ⟨fun n σ w4 => ∃ k : Nat, k ≤ l.length ∧ n = l.length - k ∧ σ = ((k : Int), (((l.take k).foldl crcOne (4294967295 ^^^ 0) : Nat) : Int), ()) ∧ w4 = w, l.length, ⟨0, by omega, rfl, ?_, rfl⟩, ?_⟩
  · have := u32_xor (x := 4294967295) (y := 0) (by omega) (by omega)
    simp only [List.take_zero, List.foldl_nil]
    rw [← this]
    rfl
  rintro n σ w4 ⟨k, hk, rfl, rfl, rfl⟩ _
  dsimp only
  have hlt := crcFold_lt (l.take k) (c := 4294967295 ^^^ 0) (by decide)
  generalize hcc : (l.take k).foldl crcOne (4294967295 ^^^ 0) = c at hlt
  refine brc_intro (fun h => ?_) (fun h => ?_)
  · have h : k < l.length := by simp at h; omega
    refine ⟨⟨by omega, by omega⟩, ?_⟩
    obtain ⟨a, ha, hat⟩ := hr.idx (i := k) (v := byteV l[k]) (by simp [h]) hS (fun c hc => hc) (t := 5) (by kernel_rfl)
    rw [ha]
    refine ⟨((l[k].toNat : Nat) : Int), by simpa [byteV] using hat, by omega, ?_⟩
    have hlb := l[k].toNat_lt
    rw [wu32 (x := l[k].toNat) (by omega), u32_xor hlt (by omega), tm256]
    refine (k179 (by omega)).mono ?_
    rintro _ w5 ⟨rfl, rfl⟩
    refine ⟨((crcEntry ((c ^^^ l[k].toNat) % 256) : Nat) : Int), rfl, by omega, l.length - (k + 1), by omega, k + 1, by omega, rfl, ?_, rfl⟩
    rw [w64 (by omega) (by omega), td256, wu32 (x := c / 256) (by omega), u32_xor (crcEntry_lt (by omega)) (by omega)]
    have ht : l.take (k + 1) = l.take k ++ [l[k]] := by rw [List.take_add_one]; simp [h]
    rw [ht, List.foldl_append, hcc]
    rfl
  · have h : k = l.length := by simp at h; omega
    subst h
    have := u32_xor (x := 4294967295) (y := c) (by omega) hlt
    rw [List.take_length] at hcc
    refine ⟨?_, rfl⟩
    have e : crcSum l = 4294967295 ^^^ c := by rw [← hcc]; rfl
    rw [e, ← this]
    rfl

theorem k150 {E w : World} {L : List Chunk} {s : SV} {l : List UInt8} (hS : Sep E w L) (hr : RdB L s l) (hb : l.length ≤ 1099511627776) :
    Calls Pr 150 #[.slice s.a s.len s.cap] w fun e w' => e = .returned (.int .u32 ((crcSum l : Nat) : Int)) ∧ w' = w := by
  refine call150 ?_
  unfold ir150
  refine (k162 hS hr hb).mono ?_
  rintro _ w1 ⟨rfl, rfl⟩
  exact ⟨_, rfl, rfl, rfl⟩

theorem u8m {x y : Nat} (h : x % 256 = y % 256) : UInt8.ofNat x = UInt8.ofNat y := by
  apply UInt8.toNat_inj.1
  rw [UInt8.toNat_ofNat', UInt8.toNat_ofNat']
  exact h

/-- creelref03.Seal. -/
theorem k128 {E w : World} {L : List Chunk} {s : SV} {l : List UInt8} (hS : Sep E w L) (hr : RdB L s l) (hb : l.length ≤ 1000000000000) :
    Calls Pr 128 #[.slice s.a s.len s.cap] w fun e w' => ∃ (s' : SV) (C : List Chunk), e = .returned (.slice s'.a s'.len s'.cap) ∧ RdB C s' (sealL l) ∧ Sep E w' (C ++ L) := by
  refine call128 ?_
  unfold ir128
  refine (k150 hS hr (by omega)).mono ?_
  rintro _ w1 ⟨rfl, rfl⟩
  refine ⟨_, rfl, ?_⟩
  obtain ⟨s1, w2, h2, s2, w3, C, h3, ho, hS3⟩ := hS.clone hr (by omega) (ty := 26)
  refine ⟨s1, w2, h2, s2, w3, h3, by omega, by omega, by omega, by omega, by omega, by omega, ?_⟩
  have hlt := crcSum_lt l
  have hle : le4 (crcSum l) = [UInt8.ofNat (crcSum l % 256), UInt8.ofNat (crcSum l / 256 % 256), UInt8.ofNat (crcSum l / 65536 % 256), UInt8.ofNat (crcSum l / 16777216)] := by
    show [UInt8.ofNat (crcSum l / 256 ^ 0), UInt8.ofNat (crcSum l / 256 ^ 1), UInt8.ofNat (crcSum l / 256 ^ 2), UInt8.ofNat (crcSum l / 256 ^ 3)] = _
    rw [show (256 : Nat) ^ 0 = 1 by rfl, show (256 : Nat) ^ 1 = 256 by rfl, show (256 : Nat) ^ 2 = 65536 by rfl, show (256 : Nat) ^ 3 = 16777216 by rfl, u8m (x := crcSum l / 1) (y := crcSum l % 256) (by omega), u8m (x := crcSum l / 256) (y := crcSum l / 256 % 256) (by omega), u8m (x := crcSum l / 65536) (y := crcSum l / 65536 % 256) (by omega)]
  generalize hc : crcSum l = c at hlt hle
  rw [tm256, td256, td65536, td16777216, wu32 (x := c / 256) (by omega), wu32 (x := c / 65536) (by omega), wu32 (x := c / 16777216) (by omega), tm256, tm256, wu8, wu8, wu8, wu8]
  obtain ⟨s3, w4, C3, h4, ho3, hS4⟩ := hS3.litB (n := 4) (parts := [(0, .int .u8 ((c % 256 % 256 : Nat) : Int)), (1, .int .u8 ((c / 256 % 256 % 256 : Nat) : Int)), (2, .int .u8 ((c / 65536 % 256 % 256 : Nat) : Int)), (3, .int .u8 ((c / 16777216 % 256 : Nat) : Int))]) (l := [UInt8.ofNat (c % 256), UInt8.ofNat (c / 256 % 256), UInt8.ofNat (c / 65536 % 256), UInt8.ofNat (c / 16777216)]) rfl (by omega) (by
    simp only [List.map_cons, List.map_nil, byteV_ofNat]
    kernel_rfl)
  refine ⟨s3, w4, h4, ?_⟩
  have hS4' : Sep E w4 (C ++ (C3 ++ L)) := hS4.weak (by intro f; simp only [ms_append, ms_cons, ms_nil]; omega)
  obtain ⟨s4, w5, C4, h5, ho4, hS5⟩ := hS4'.appB (ty := 26) ho ((ho3.rdl L).right C) (by simp; omega)
  refine ⟨s4, w5, h5, s4, C4 ++ C3, rfl, ?_, by rw [List.append_assoc]; exact hS5⟩
  unfold sealL
  rw [hc, hle]
  exact ho4.rdl C3

/-- creelref01.Fix. -/
theorem k129 {E w : World} {L : List Chunk} {s : SV} {l : List UInt8} (hS : Sep E w L) (hr : RdB L s l) (hb : l.length ≤ 1099511627776) {n k : Nat} (hk : k ≤ 8) (hk0 : 0 < k) (hn : n < 18446744073709551616) :
    Calls Pr 129 #[.slice s.a s.len s.cap, .int .u64 ((n : Nat) : Int), .int .i64 ((k : Nat) : Int)] w fun e w' => ∃ (s' : SV) (C : List Chunk), e = .returned (.slice s'.a s'.len s'.cap) ∧ Own 5 1 s' ((l ++ bigE n k).map byteV) C ∧ Sep E w' (C ++ L) := by
  refine call129 ?_
  unfold ir129
  obtain ⟨s0, w0, h0, s1, w1, C, h1, ho, hS1⟩ := hS.clone hr (by omega) (ty := 26)
  refine ⟨s0, w0, h0, s1, w1, h1, brc_false (decide_eq_false (by omega)) (brc_false (decide_eq_false (by omega)) ?_)⟩
  refine ⟨fun r σ w2 => ∃ (m : Nat) (l' : List UInt8) (C : List Chunk), m ≤ k ∧ r = m ∧ l'.length ≤ l.length + 8 ∧ σ.1 = ((m : Nat) : Int) - 1 ∧ l' ++ bigE n m = l ++ bigE n k ∧ Own 5 1 σ.2.1 (l'.map byteV) C ∧ Sep E w2 (C ++ L), k, ⟨k, l, C, Nat.le_refl _, rfl, by omega, w64 (by omega) (by omega), rfl, ho, hS1⟩, ?_⟩
  rintro r ⟨i, s2, u⟩ w2 ⟨m, l', C, hm, hrm, hl', hi, he, ho, hS2⟩ _
  dsimp only at hi ho ⊢
  subst hi
  refine brc_intro (fun h => ?_) (fun h => ?_)
  · have h : 0 < m := by simp at h; omega
    obtain ⟨m, rfl⟩ : ∃ m', m = m' + 1 := ⟨m - 1, by omega⟩
    have e0 : (((m + 1 : Nat) : Int) - 1) = ((m : Nat) : Int) := by omega
    rw [e0]
    refine ⟨fun r σ w4 => ∃ i : Nat, i ≤ m ∧ r = m - i ∧ σ = ((i : Int), ((n / 256 ^ i : Nat) : Int), ()) ∧ w4 = w2, m, ⟨0, by omega, rfl, by simp, rfl⟩, ?_⟩
    rintro r' σ w4 ⟨i, hi, rfl, rfl, rfl⟩ _
    dsimp only
    have hle : n / 256 ^ i ≤ n := Nat.div_le_self _ _
    refine brc_intro (fun h' => ?_) (fun h' => ?_)
    · have h' : i < m := by simp at h'; omega
      refine ⟨by omega, m - (i + 1), by omega, i + 1, by omega, rfl, ?_, rfl⟩
      rw [td256, w64 (by omega) (by omega), Nat.div_div_eq_div_mul, ← Nat.pow_succ]
      have hle' : n / 256 ^ i.succ ≤ n := Nat.div_le_self _ _
      generalize hq : n / 256 ^ i.succ = q at hle'
      rw [IntKind.wrap_u64, Int.emod_eq_of_lt (by omega) (by omega), ← hq]
      rfl
    · have h' : i = m := by simp at h'; omega
      subst h'
      refine ⟨by omega, ?_⟩
      rw [tm256, wu8]
      obtain ⟨s3, w3, C3, h3, ho3, hS3⟩ := hS2.litB (n := 1) (parts := [(0, .int .u8 ((n / 256 ^ i % 256 % 256 : Nat) : Int))]) (l := [UInt8.ofNat (n / 256 ^ i)]) rfl (by omega) (by
        simp only [List.map_cons, List.map_nil, byteV_ofNat]
        rw [Nat.mod_mod]
        kernel_rfl)
      refine ⟨s3, w3, h3, ?_⟩
      have hS3' : Sep E w3 (C ++ (C3 ++ L)) := hS3.weak (by intro f; simp only [ms_append, ms_cons, ms_nil]; omega)
      have hlen : (l' ++ bigE n (i + 1)).length = (l ++ bigE n k).length := by rw [he]
      simp only [List.length_append, bigE_len] at hlen
      obtain ⟨s4, w4, C4, h4, ho4, hS4⟩ := hS3'.appB (ty := 26) ho ((ho3.rdl L).right C) (by simp; omega)
      refine ⟨s4, w4, h4, i, by omega, i, _, C4, by omega, rfl, ?_, ?_, ?_, ho4, hS4.weak (by intro f; simp only [ms_append, ms_cons, ms_nil]; omega)⟩
      · simp; omega
      · show IntKind.wrap .i64 (((i : Nat) : Int) - 1) = _
        rw [w64 (by omega) (by omega)]
      · rw [← he]
        simp [bigE]
  · have h : m = 0 := by simp at h; omega
    subst h
    have he : l' = l ++ bigE n k := by simpa [bigE] using he
    subst he
    exact ⟨s2, C, rfl, ho, hS2⟩

/-- creelref03.Put. -/
theorem k70 {E w : World} {L : List Chunk} {s x : SV} {l m : List UInt8} (hS : Sep E w L) (hs : RdB L s l) (hx : RdB L x m) (hb : l.length ≤ 1000000000000) (hm : m.length ≤ 4096) :
    Calls Pr 70 #[.slice s.a s.len s.cap, .slice x.a x.len x.cap] w fun e w' => ∃ (s' : SV) (C : List Chunk), e = .returned (.tuple #[.slice s'.a s'.len s'.cap, .int .i64 0]) ∧ RdB C s' (l ++ frameL m) ∧ Sep E w' (C ++ L) := by
  refine call70 ?_
  unfold ir70
  have hsz := hx.size
  refine brc_false (decide_eq_false (by omega)) ?_
  have hw : IntKind.wrap .u64 ((x.len : Nat) : Int) = ((m.length : Nat) : Int) := by rw [hsz, IntKind.wrap_u64]; omega
  rw [hw]
  refine (k129 (s := SV.nil) (l := []) hS (RdS.none L 1) (by simp) (n := m.length) (k := 4) (by omega) (by omega) (by omega)).mono ?_
  rintro _ w1 ⟨s1, C1, rfl, ho1, hS1⟩
  refine ⟨s1, rfl, ?_⟩
  obtain ⟨s2, w2, C2, h2, ho2, hS2⟩ := hS1.appB (ty := 26) ho1 (hx.right C1) (by simp [bigE_len]; omega)
  refine ⟨s2, w2, h2, (k128 hS2 (ho2.rdl L) (by simp [bigE_len]; omega)).mono ?_⟩
  rintro _ w3 ⟨s3, C3, rfl, hr3, hS3⟩
  refine ⟨s3, rfl, ?_⟩
  obtain ⟨s4, w4, h4, s5, w5, C5, h5, ho5, hS5⟩ := hS3.clone ((hs.right C2).right C3) (by omega) (ty := 26)
  refine ⟨s4, w4, h4, s5, w5, h5, ?_⟩
  have hlen : (sealL ([] ++ bigE m.length 4 ++ m)).length = m.length + 8 := by simp [sealL_len, bigE_len]; omega
  obtain ⟨s6, w6, C6, h6, ho6, hS6⟩ := hS5.appB (ty := 26) ho5 ((hr3.left _).right C5) (by rw [hlen]; omega)
  refine ⟨s6, w6, h6, s6, C6 ++ (C3 ++ C2), rfl, ?_, ?_⟩
  · exact ho6.rdl _
  · simp only [List.append_assoc]
    exact hS6

end Go.Proofs.Ytonjaaljnjjjcaa
