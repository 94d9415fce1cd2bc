/- Contracts: sums, fixed numbers, frames of the program. Conditions: as each lemma says. -/
import Derived.Test.YtonjaaljnjjjcaaC2
set_option linter.unusedVariables false
set_option linter.unusedSimpArgs false
namespace Go.Proofs.Ytonjaaljnjjjcaa
open Go Go.RowKit

theorem byteV_ofNat (x : Nat) : byteV (UInt8.ofNat x) = .int .u8 ((x % 256 : Nat) : Int) := by
  unfold byteV
  rw [UInt8.toNat_ofNat']

theorem Sep.litB {E w : World} {L : List Chunk} (hS : Sep E w L) {n : Nat} {parts : List (Nat × Value)} {l : List UInt8} (hl : l.length = n) (hn : n ≤ 1099511627776) (hv : bsV Pr 26 n parts = some (l.map byteV)) :
    ∃ (s : SV) (w' : World) (C : List Chunk), Sem.run Pr (Instr.buildSlice 26 n parts.toArray) w = .ok (.slice s.a s.len s.cap) w' ∧ Own 5 1 s (l.map byteV) C ∧ Sep E w' (C ++ L) := by
  obtain ⟨b, w1, h1, hS1⟩ := hS.buildSlice (t := 26) (T := 5) (by kernel_rfl) hv
  exact ⟨⟨some ⟨b, 0, none⟩, n, n⟩, w1, _, h1, Own.new (by simp [hl]) (by unfold maxLen; omega), hS1⟩

theorem Sep.appB {E w : World} {C L : List Chunk} {s x : SV} {l m : List UInt8} (hS : Sep E w (C ++ L)) (ho : Own 5 1 s (l.map byteV) C) (hx : RdB (C ++ L) x m) (hb : l.length + m.length ≤ 35184372088832) {ty : Nat} :
    ∃ (s' : SV) (w' : World) (C' : List Chunk), Sem.run Pr (Builtin.append_ #[26, 26] ty #[.slice s.a s.len s.cap, .slice x.a x.len x.cap]) w = .ok (.slice s'.a s'.len s'.cap) w' ∧ Own 5 1 s' ((l ++ m).map byteV) C' ∧ Sep E w' (C' ++ L) := by
  have h1 := ho.rds.len1
  have h2 := hx.size
  rw [List.length_map] at h1
  obtain ⟨s', w', C', h, ho', _, hS'⟩ := Sep.append (ty := ty) tiB hS ho (hx.src hS fun c hc => hc) (byteV_one m) (by rw [h1, h2]; omega) (by rw [h1, h2]; unfold maxLen; omega)
  exact ⟨s', w', C', h, by rw [List.map_append]; exact ho', hS'⟩

theorem Own.size {s : SV} {l : List UInt8} {C : List Chunk} (h : Own 5 1 s (l.map byteV) C) : s.len = l.length := by
  have := h.rds.len1
  rwa [List.length_map] at this

/-- slices.Clone: 'append([]T{}, x...)'. -/
theorem Sep.clone {E w : World} {L : List Chunk} (hS : Sep E w L) {x : SV} {m : List UInt8} (hx : RdB L x m) (hb : m.length ≤ 35184372088832) {ty : Nat} :
    ∃ (s1 : SV) (w1 : World), Sem.run Pr (Instr.buildSlice 26 0 #[]) w = .ok (.slice s1.a s1.len s1.cap) w1 ∧ ∃ (s' : SV) (w' : World) (C' : List Chunk),
      Sem.run Pr (Builtin.append_ #[26, 26] ty #[.slice s1.a s1.len s1.cap, .slice x.a x.len x.cap]) w1 = .ok (.slice s'.a s'.len s'.cap) w' ∧ Own 5 1 s' (m.map byteV) C' ∧ Sep E w' (C' ++ L) := by
  obtain ⟨s1, w1, C, h1, ho, hS1⟩ := hS.litB (n := 0) (parts := []) (l := []) rfl (by omega) (by kernel_rfl)
  obtain ⟨s', w', C', h2, ho', hS2⟩ := hS1.appB (ty := ty) ho (hx.right C) (by simpa using hb)
  exact ⟨s1, w1, h1, s', w', C', h2, ho', hS2⟩

theorem tab_at (i : Nat) (h : i < 256) : ((tabL 256).toArray : Array Value)[i]? = some (.int .u32 ((crcEntry i : Nat) : Int)) := by
  simp [tabL, h]

theorem mix_prog {c : Nat} (h : c < 4294967296) (b : UInt8) :
    IntKind.wrap .u8 (((BitVec.ofInt (IntKind.bits .u8) (IntKind.wrap .u8 ((c : Nat) : Int)) ^^^ BitVec.ofInt (IntKind.bits .u8) ((b.toNat : Nat) : Int)).toNat : Nat) : Int) = (((c ^^^ b.toNat) % 256 : Nat) : Int) := by
  rw [wu8 c, u8_xor (by omega) (by have := b.toNat_lt; omega)]
  congr 1
  have : (c ^^^ b.toNat) % 2 ^ 8 = (c % 2 ^ 8) ^^^ (b.toNat % 2 ^ 8) := Nat.xor_mod_two_pow
  have hb : b.toNat % 2 ^ 8 = b.toNat := Nat.mod_eq_of_lt b.toNat_lt
  rw [hb] at this
  exact this.symm

theorem inv_prog {c : Nat} (h : c < 4294967296) :
    IntKind.wrap .u32 (((BitVec.ofInt (IntKind.bits .u32) (if IntKind.signed .u32 then -1 else IntKind.max .u32) ^^^ BitVec.ofInt (IntKind.bits .u32) ((c : Nat) : Int)).toNat : Nat) : Int) = ((4294967295 ^^^ c : Nat) : Int) :=
  u32_xor (x := 4294967295) (by omega) h

/-- crc.Add, crc.Sum. -/
theorem k167 {E w : World} {L : List Chunk} {s : SV} {l : List UInt8} (hS : Sep E w L) (hr : RdB L s l) (hb : l.length ≤ 1099511627776) :
    Calls Pr 167 #[.int .u32 0, .slice s.a s.len s.cap] w fun e w' => e = .returned (.int .u32 ((crcSum l : Nat) : Int)) ∧ ∃ C, Sep E w' (C ++ L) := by
  refine call167 ?_
  unfold ir167
  refine (k181 hS).mono ?_
  rintro _ w1 ⟨rfl, C, hS1⟩
  refine ⟨_, rfl, ?_⟩
  obtain ⟨b1, w2, h2, hS2⟩ := hS1.alloc (t := 234) z234
  obtain ⟨w3, h3, hS3⟩ := hS2.store (o := 0) (n := 256) (v := .agg (tabL 256).toArray) (t := 234) (by kernel_rfl) (by simp [Value.cells, tabL_len]) (by rw [tabL_len]; omega) (by
    intro u hu
    simp only [Value.cells, tabL, List.mem_map] at hu
    obtain ⟨i, _, rfl⟩ := hu
    split <;> rfl)
  have hsp : spl (tabL 0) 0 (Value.agg (tabL 256).toArray).cells.toList = tabL 256 := by
    simp only [spl, Value.cells, List.take_zero, List.nil_append, Nat.zero_add]
    rw [List.drop_of_length_le (by rw [tabL_len, tabL_len]; omega), List.append_nil]
  rw [hsp] at hS3
  refine ⟨_, w2, h2, w3, h3, ?_⟩
  have hsz := hr.size
  refine ⟨fun n σ w4 => ∃ k : Nat, k ≤ l.length ∧ n = l.length - k ∧ σ = ((k : Int), (((l.take k).foldl crcOne (4294967295 ^^^ 0) : Nat) : Int), ()) ∧ w4 = w3, l.length, ⟨0, by omega, rfl, ?_, rfl⟩, ?_⟩
  · have := inv_prog (c := 0) (by omega)
    simp only [List.take_zero, List.foldl_nil]
    rw [← this]
    rfl
  rintro n σ w4 ⟨k, hk, rfl, rfl, rfl⟩ _
  dsimp only
  have hlt := crcFold_lt (l.take k) (c := 4294967295 ^^^ 0) (by decide)
  generalize hcc : (l.take k).foldl crcOne (4294967295 ^^^ 0) = c at hlt
  refine brc_intro (fun h => ?_) (fun h => ?_)
  · have h : k < l.length := by simp at h; omega
    refine ⟨⟨by omega, by omega⟩, ?_⟩
    obtain ⟨a, ha, hat⟩ := (hr.right ((b1, .cells (tabL 256).toArray 234 (0, 0)) :: C)).idx (i := k) (v := byteV l[k]) (by simp [h]) hS3 (fun c hc => hc) (t := 5) (by kernel_rfl)
    rw [ha]
    refine ⟨((l[k].toNat : Nat) : Int), by simpa [byteV] using hat, ?_⟩
    rw [mix_prog hlt]
    have hm : (c ^^^ (l[k]).toNat) % 256 < 256 := Nat.mod_lt _ (by omega)
    generalize hi : (c ^^^ (l[k]).toNat) % 256 = i at hm
    refine ⟨⟨by omega, by omega⟩, ?_⟩
    refine ⟨((crcEntry i : Nat) : Int), ?_, by omega, l.length - (k + 1), by omega, k + 1, by omega, rfl, ?_, rfl⟩
    · rw [addr_add]
      refine hS3.load (v := .int .u32 ((crcEntry i : Nat) : Int)) List.mem_cons_self ?_ (by kernel_rfl)
      have := tab_at i hm
      simpa using this
    · rw [w64 (by omega) (by omega)]
      have hd : Int.fdiv ((c : Nat) : Int) (2 ^ (min (Int.toNat 8) (IntKind.bits .u32))) = ((c / 256 : Nat) : Int) := by
        change Int.fdiv ((c : Nat) : Int) 256 = _
        rw [Int.fdiv_eq_ediv_of_nonneg _ (by omega)]
        omega
      rw [hd, u32_xor (crcEntry_lt (by omega)) (by omega)]
      have ht : l.take (k + 1) = l.take k ++ [l[k]] := by rw [List.take_add_one]; simp [h]
      rw [ht, List.foldl_append, hcc]
      simp only [List.foldl_cons, List.foldl_nil, crcOne, hi]
      rfl
  · have h : k = l.length := by simp at h; omega
    subst h
    rw [inv_prog hlt]
    rw [List.take_length] at hcc
    refine ⟨?_, _ :: C, hS3⟩
    rw [← hcc]
    rfl

theorem k156 {E w : World} {L : List Chunk} {s : SV} {l : List UInt8} (hS : Sep E w L) (hr : RdB L s l) (hb : l.length ≤ 1099511627776) :
    Calls Pr 156 #[.slice s.a s.len s.cap] w fun e w' => e = .returned (.int .u32 ((crcSum l : Nat) : Int)) ∧ ∃ C, Sep E w' (C ++ L) := by
  refine call156 ?_
  unfold ir156
  refine (k167 hS hr hb).mono ?_
  rintro _ w1 ⟨rfl, C, hS1⟩
  exact ⟨_, rfl, rfl, C, hS1⟩

/-! ### Fixed numbers -/
def bigE (n : Nat) : Nat → List UInt8
  | 0 => []
  | k + 1 => UInt8.ofNat (n / 256 ^ k) :: bigE n k
def leL (n k : Nat) : List UInt8 := (List.range k).map fun i => UInt8.ofNat (n / 256 ^ i)

theorem bigE_len (n : Nat) : ∀ k, (bigE n k).length = k
  | 0 => rfl
  | k + 1 => by simp [bigE, bigE_len n k]
theorem leL_len (n k : Nat) : (leL n k).length = k := by simp [leL]
theorem leL_succ (n k : Nat) : leL n (k + 1) = leL n k ++ [UInt8.ofNat (n / 256 ^ k)] := by simp [leL, List.range_succ]

theorem shr8 (n i B : Nat) (h : 8 * i ≤ B) (hi : i < 100) : Int.fdiv ((n : Nat) : Int) (2 ^ (min (Int.toNat (IntKind.wrap .i64 (8 * ((i : Nat) : Int)))) B)) = ((n / 256 ^ i : Nat) : Int) := by
  rw [w64 (by omega) (by omega)]
  have h1 : Int.toNat (8 * ((i : Nat) : Int)) = 8 * i := by omega
  rw [h1, Nat.min_eq_left h]
  have h2 : (2 : Int) ^ (8 * i) = ((256 ^ i : Nat) : Int) := by
    rw [Int.natCast_pow, Int.pow_mul]
    rfl
  rw [h2, Int.fdiv_eq_ediv_of_nonneg _ (Int.natCast_nonneg _)]
  exact (Int.natCast_ediv _ _).symm

theorem k138 {E w : World} {L : List Chunk} {s : SV} {l : List UInt8} (hS : Sep E w L) (hr : RdB L s l) (hb : l.length ≤ 1099511627776) {n k : Nat} (hk : k ≤ 8) (hk0 : 0 < k) :
    Calls Pr 138 #[.slice s.a s.len s.cap, .int .u64 ((n : Nat) : Int), .int .i64 ((k : Nat) : Int)] w fun e w' => ∃ (s' : SV) (C : List Chunk), e = .returned (.slice s'.a s'.len s'.cap) ∧ Own 5 1 s' ((l ++ bigE n k).map byteV) C ∧ Sep E w' (C ++ L) := by
  refine call138 ?_
  unfold ir138
  refine (k88 hS hr hb).mono ?_
  rintro _ w1 ⟨s1, C, rfl, ho, hS1⟩
  refine ⟨s1, rfl, brc_false (decide_eq_false (by omega)) (brc_false (decide_eq_false (by omega)) ?_)⟩
  refine ⟨fun r σ w2 => ∃ (m : Nat) (l' : List UInt8) (C : List Chunk), m ≤ k ∧ r = m ∧ l'.length ≤ l.length + 8 ∧ σ.1 = ((m : Nat) : Int) - 1 ∧ l' ++ bigE n m = l ++ bigE n k ∧ Own 5 1 σ.2.1 (l'.map byteV) C ∧ Sep E w2 (C ++ L), k, ⟨k, l, C, Nat.le_refl _, rfl, by omega, w64 (by omega) (by omega), rfl, ho, hS1⟩, ?_⟩
  rintro r ⟨i, s2, u⟩ w2 ⟨m, l', C, hm, hrm, hl', hi, he, ho, hS2⟩ _
  dsimp only at hi ho ⊢
  subst hi
  refine brc_intro (fun h => ?_) (fun h => ?_)
  · have h : 0 < m := by simp at h; omega
    obtain ⟨m, rfl⟩ : ∃ m', m = m' + 1 := ⟨m - 1, by omega⟩
    have e0 : (((m + 1 : Nat) : Int) - 1) = ((m : Nat) : Int) := by omega
    rw [e0]
    refine ⟨by rw [w64 (by omega) (by omega)]; omega, ?_⟩
    rw [shr8 n m _ (by show 8 * m ≤ 64; omega) (by omega), wu8]
    obtain ⟨s3, w3, C3, h3, ho3, hS3⟩ := hS2.litB (n := 1) (parts := [(0, .int .u8 ((n / 256 ^ m % 256 : Nat) : Int))]) (l := [UInt8.ofNat (n / 256 ^ m)]) rfl (by omega) (by
      simp only [List.map_cons, List.map_nil, byteV_ofNat]
      kernel_rfl)
    refine ⟨s3, w3, h3, ?_⟩
    have hS3' : Sep E w3 (C ++ (C3 ++ L)) := hS3.weak (by intro f; simp only [ms_append, ms_cons, ms_nil]; omega)
    have hlen : (l' ++ bigE n (m + 1)).length = (l ++ bigE n k).length := by rw [he]
    simp only [List.length_append, bigE_len] at hlen
    obtain ⟨s4, w4, C4, h4, ho4, hS4⟩ := hS3'.appB (ty := 26) ho ((ho3.rdl L).right C) (by simp; omega)
    refine ⟨s4, w4, h4, m, by omega, m, _, C4, by omega, rfl, ?_, ?_, ?_, ho4, hS4.weak (by intro f; simp only [ms_append, ms_cons, ms_nil]; omega)⟩
    · simp; omega
    · show IntKind.wrap .i64 (((m : Nat) : Int) - 1) = _
      rw [w64 (by omega) (by omega)]
    · rw [← he]
      simp [bigE]
  · have h : m = 0 := by simp at h; omega
    subst h
    have he : l' = l ++ bigE n k := by simpa [bigE] using he
    subst he
    exact ⟨s2, C, rfl, ho, hS2⟩

/-! ### Frames -/
def le4 (n : Nat) : List UInt8 := leL n 4
def sealL (x : List UInt8) : List UInt8 := x ++ le4 (crcSum x)
def frameL (x : List UInt8) : List UInt8 := sealL (bigE x.length 4 ++ x)
theorem sealL_len (x : List UInt8) : (sealL x).length = x.length + 4 := by simp [sealL, le4, leL_len]
theorem frameL_len (x : List UInt8) : (frameL x).length = x.length + 8 := by simp [frameL, sealL_len, bigE_len]; omega

theorem Sep.copyB {E w : World} {F : List Chunk} {g n c : Nat} {cur : Array Value} {x : SV} {m : List UInt8} (hS : Sep E w ((g, .cells cur 5 (0, 0)) :: F)) (hx : RdB F x m) (hm : m.length ≤ n) (hn : n ≤ cur.size) {ty : Nat} :
    ∃ w', Sem.run Pr (Builtin.copy_ #[26, 26] ty #[.slice (some ⟨g, 0, none⟩) n c, .slice x.a x.len x.cap]) w = .ok (.int .i64 ((m.length : Nat) : Int)) w' ∧ Sep E w' ((g, .cells (m.map byteV ++ cur.toList.drop m.length).toArray 5 (0, 0)) :: F) := by
  have hsz := hx.size
  have hu : Pr.underlying 26 = some (.slice 5) := tiB.und
  have h1 : (Pr.info? 5).map (·.size) = some 1 := by kernel_rfl
  cases hxa : x.a with
  | none =>
    have h0 := hx.nil hxa
    have : m = [] := List.eq_nil_of_length_eq_zero (by omega)
    subst this
    refine ⟨w, ?_, by simpa using hS⟩
    exact run_copy_none w 26 26 ty 5 (some ⟨g, 0, none⟩) none n c x.len x.cap hu h1 (by rw [h0]; simp)
  | some a =>
    refine ⟨_, ?_, hS.setRow _⟩
    have hg := hS.at_ _ List.mem_cons_self
    have hsrc := hx.src (hS.weak (L' := F) (by intro f; simp only [ms_append, ms_cons, ms_nil]; omega)) fun c hc => hc
    have := run_copy_row (P := Pr) w 26 26 ty 5 g 0 n c a x.len x.cap cur 5 (m.map byteV) hu h1 hg (by rw [List.length_map, hsz]; exact (Nat.min_eq_left hm).symm) (hsrc.at_ a hxa) (by rw [List.length_map]; omega) (byteV_one m)
    simpa [goInt] using this

theorem spl_mid (A Z : List Value) (z v : Value) : spl (A ++ z :: Z) A.length [v] = A ++ v :: Z := by
  simp [spl]

theorem zerosL_u8 (n : Nat) : zerosL (.int .u8 0) (n * 1) = List.replicate n (.int .u8 0) := by
  apply List.ext_getElem
  · simp [zerosL]
  · intro i h1 h2
    simp [zerosL, Value.cells, Nat.mod_one]

/-- frame.Seal. -/
theorem k137 {E w : World} {L : List Chunk} {s : SV} {l : List UInt8} (hS : Sep E w L) (hr : RdB L s l) (hb : l.length ≤ 1000000000000) :
    Calls Pr 137 #[.slice s.a s.len s.cap] w fun e w' => ∃ (s' : SV) (C : List Chunk), e = .returned (.slice s'.a s'.len s'.cap) ∧ RdB C s' (sealL l) ∧ Sep E w' (C ++ L) := by
  refine call137 ?_
  unfold ir137
  have hsz := hr.size
  obtain ⟨g, w1, h1, hS1⟩ := hS.makeSlice tiB (n := l.length + 4) (by omega) (by omega)
  have hw : IntKind.wrap .i64 (((s.len : Nat) : Int) + 4) = ((l.length + 4 : Nat) : Int) := by rw [hsz, w64 (by omega) (by omega)]; omega
  rw [hw]
  refine ⟨⟨some ⟨g, 0, none⟩, l.length + 4, l.length + 4⟩, w1, h1, ?_⟩
  rw [zerosL_u8] at hS1
  obtain ⟨w2, h2, hS2⟩ := hS1.copyB (n := l.length + 4) (c := l.length + 4) (ty := 3) hr (by omega) (by simp)
  refine ⟨_, w2, h2, ?_⟩
  have hd : (List.replicate (l.length + 4) (Value.int .u8 0)).toArray.toList.drop l.length = List.replicate 4 (.int .u8 0) := by
    simp
  rw [hd] at hS2
  refine (k156 hS2 (hr.tail _) (by omega)).mono ?_
  rintro _ w3 ⟨rfl, C, hS3⟩
  refine ⟨_, rfl, ⟨by omega, by simp only [hsz]; omega⟩, ?_⟩
  refine ⟨fun r σ w4 => ∃ k : Nat, k ≤ 4 ∧ r = 4 - k ∧ σ = ((k : Int), ()) ∧ Sep E w4 ((g, .cells ((l ++ leL (crcSum l) k).map byteV ++ List.replicate (4 - k) (Value.int .u8 0)).toArray 5 (0, 0)) :: (C ++ L)), 4, ⟨0, by omega, rfl, rfl, ?_⟩, ?_⟩
  · have e0 : (l ++ leL (crcSum l) 0).map byteV ++ List.replicate (4 - 0) (Value.int .u8 0) = l.map byteV ++ List.replicate 4 (.int .u8 0) := by simp [leL]
    rw [e0]
    exact hS3.weak (by intro f; simp only [ms_append, ms_cons, ms_nil]; omega)
  rintro r σ w4 ⟨k, hk, rfl, rfl, hS4⟩ _
  dsimp only
  have e1 : l.length + 4 - Int.toNat ((s.len : Nat) : Int) = 4 := by rw [hsz]; simp
  rw [e1]
  refine brc_intro (fun h => ?_) (fun h => ?_)
  · have h : k < 4 := by simp at h; omega
    have e2 : IntKind.wrap .i64 (((s.len : Nat) : Int) + ((k : Nat) : Int)) = ((l.length + k : Nat) : Int) := by rw [hsz, w64 (by omega) (by omega)]; omega
    rw [e2, shr8 _ k _ (by show 8 * k ≤ 32; omega) (by omega), wu8]
    have hx : (l ++ leL (crcSum l) k).map byteV ++ List.replicate (4 - k) (Value.int .u8 0) = (l ++ leL (crcSum l) k).map byteV ++ (.int .u8 0) :: List.replicate (4 - (k + 1)) (.int .u8 0) := by
      rw [show 4 - k = (4 - (k + 1)) + 1 by omega]
      rfl
    rw [hx] at hS4
    have hlen : ((l ++ leL (crcSum l) k).map byteV).length = l.length + k := by simp [leL_len]
    obtain ⟨w5, h5, hS5⟩ := hS4.store (o := l.length + k) (n := 1) (v := .int .u8 ((crcSum l / 256 ^ k % 256 : Nat) : Int)) (t := 5) (by kernel_rfl) rfl (by rw [List.length_append, hlen]; simp) (by simp [Value.cells, Value.oneCell'])
    refine ⟨by rw [w64 (by omega) (by omega)]; omega, ⟨by omega, by omega⟩, w5, ?_, 4 - (k + 1), by omega, k + 1, by omega, rfl, ?_, ?_⟩
    · simp only [Int.toNat_natCast, Nat.mul_one, addr_add, Nat.zero_add]
      exact h5
    · rw [w64 (by omega) (by omega)]
      rfl
    · have hm := spl_mid ((l ++ leL (crcSum l) k).map byteV) (List.replicate (4 - (k + 1)) (.int .u8 0)) (.int .u8 0) (.int .u8 ((crcSum l / 256 ^ k % 256 : Nat) : Int))
      rw [hlen] at hm
      have hm' : spl ((l ++ leL (crcSum l) k).map byteV ++ (.int .u8 0) :: List.replicate (4 - (k + 1)) (.int .u8 0)) (l.length + k) (Value.int .u8 ((crcSum l / 256 ^ k % 256 : Nat) : Int)).cells.toList = (l ++ leL (crcSum l) (k + 1)).map byteV ++ List.replicate (4 - (k + 1)) (.int .u8 0) := by
        refine hm.trans ?_
        rw [leL_succ, ← List.append_assoc, List.map_append (l₁ := l ++ leL (crcSum l) k), List.map_cons, List.map_nil, byteV_ofNat]
        simp
      rw [hm'] at hS5
      exact hS5
  · have h : k = 4 := by simp at h; omega
    subst h
    refine ⟨⟨some ⟨g, 0, none⟩, l.length + 4, l.length + 4⟩, _ :: C, rfl, ?_, hS4⟩
    refine RdS.mono (I := [_]) (Own.rds (Own.new (T := 5) (g := g) (n := l.length + 4) (vs := (sealL l).map byteV) (by simp [sealL_len]) (by unfold maxLen; omega))) fun c hc => ?_
    rw [List.mem_singleton] at hc
    subst hc
    simp [sealL, le4]

theorem Sep.litBs {E w : World} {L : List Chunk} (hS : Sep E w L) {n : Nat} {parts : List (Nat × Value)} {ss : List SV} (hl : ss.length = n) (hn : n ≤ 1099511627776) (hv : bsV Pr 22 n parts = some (ss.map slV)) :
    ∃ (s : SV) (w' : World) (C : List Chunk), Sem.run Pr (Instr.buildSlice 22 n parts.toArray) w = .ok (.slice s.a s.len s.cap) w' ∧ Own 26 1 s (ss.map slV) C ∧ Sep E w' (C ++ L) := by
  obtain ⟨b, w1, h1, hS1⟩ := hS.buildSlice (t := 22) (T := 26) (by kernel_rfl) hv
  exact ⟨⟨some ⟨b, 0, none⟩, n, n⟩, w1, _, h1, Own.new (by simp [hl]) (by unfold maxLen; omega), hS1⟩

/-- Two slices of bytes, one behind the other. -/
theorem Sep.join {E w : World} {L : List Chunk} (hS : Sep E w L) {s t : SV} {l m : List UInt8} (hs : RdB L s l) (ht : RdB L t m) (hb : l.length + m.length ≤ 1099511627776) :
    ∃ (s1 : SV) (w1 : World), Sem.run Pr (Instr.buildSlice 22 2 #[(0, .slice s.a s.len s.cap), (1, .slice t.a t.len t.cap)]) w = .ok (.slice s1.a s1.len s1.cap) w1 ∧
      Calls Pr 94 #[.slice s1.a s1.len s1.cap] w1 fun e w' => ∃ (s' : SV) (C : List Chunk), e = .returned (.slice s'.a s'.len s'.cap) ∧ RdB C s' (l ++ m) ∧ Sep E w' (C ++ L) := by
  obtain ⟨s1, w1, C, h1, ho, hS1⟩ := hS.litBs (n := 2) (parts := [(0, .slice s.a s.len s.cap), (1, .slice t.a t.len t.cap)]) (ss := [s, t]) rfl (by omega) (by kernel_rfl)
  refine ⟨s1, w1, h1, (k94 (ls := [l, m]) hS1 (ho.rdl L) (((RdBs.nil L).cons ht).cons hs |>.mono fun c hc => List.mem_append_right _ hc) (by simp) (by simpa using hb)).mono ?_⟩
  rintro _ w2 ⟨s2, C2, rfl, ho2, hS2⟩
  refine ⟨s2, C2 ++ C, rfl, ?_, by rw [List.append_assoc]; exact hS2⟩
  have := ho2.rdl C
  simpa [RdB] using this

/-- frame.Put. -/
theorem k84 {E w : World} {L : List Chunk} {s x : SV} {l m : List UInt8} (hS : Sep E w L) (hs : RdB L s l) (hx : RdB L x m) (hb : l.length ≤ 1000000000) (hm : m.length ≤ 4096) :
    Calls Pr 84 #[.slice s.a s.len s.cap, .slice x.a x.len x.cap] w fun e w' => ∃ (s' : SV) (C : List Chunk), e = .returned (.tuple #[.slice s'.a s'.len s'.cap, .int .i64 0]) ∧ RdB C s' (l ++ frameL m) ∧ Sep E w' (C ++ L) := by
  refine call84 ?_
  unfold ir84
  have hsz := hx.size
  refine brc_false (decide_eq_false (by omega)) ?_
  have hw : IntKind.wrap .u64 ((x.len : Nat) : Int) = ((m.length : Nat) : Int) := by rw [hsz, IntKind.wrap_u64]; omega
  rw [hw]
  refine (k138 (s := SV.nil) (l := []) hS (RdS.none L 1) (by simp) (n := m.length) (k := 4) (by omega) (by omega)).mono ?_
  rintro _ w1 ⟨s1, C1, rfl, ho1, hS1⟩
  refine ⟨s1, rfl, ?_⟩
  obtain ⟨s2, w2, h2, hc2⟩ := hS1.join (ho1.rdl L) (hx.right C1) (by simp [bigE_len]; omega)
  refine ⟨s2, w2, h2, hc2.mono ?_⟩
  rintro _ w3 ⟨s3, C3, rfl, hr3, hS3⟩
  refine ⟨s3, rfl, (k137 hS3 (hr3.left _) (by simp [bigE_len]; omega)).mono ?_⟩
  rintro _ w4 ⟨s4, C4, rfl, hr4, hS4⟩
  refine ⟨s4, rfl, ?_⟩
  have hlen : (sealL ([] ++ bigE m.length 4 ++ m)).length = m.length + 8 := by simp [sealL_len, bigE_len]; omega
  obtain ⟨s5, w5, h5, hc5⟩ := hS4.join (((hs.right C1).right C3).right C4) (hr4.left _) (by rw [hlen]; omega)
  refine ⟨s5, w5, h5, hc5.mono ?_⟩
  rintro _ w6 ⟨s6, C6, rfl, hr6, hS6⟩
  refine ⟨s6, rfl, s6, C6 ++ (C4 ++ (C3 ++ C1)), rfl, ?_, ?_⟩
  · exact hr6.left _
  · simp only [List.append_assoc]
    exact hS6

end Go.Proofs.Ytonjaaljnjjjcaa
