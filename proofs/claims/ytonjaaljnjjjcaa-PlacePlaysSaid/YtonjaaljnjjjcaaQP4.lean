/- The reference's disk: how many bytes there are; Append. Conditions: as each lemma says. -/
import Derived.Test.YtonjaaljnjjjcaaProg
import Derived.Shelf.Slices.In.SortAlone
import Derived.Shelf.Slices.In.SortNone
import Derived.Sort.EveryDepth
import Derived.KernelRfl
import Derived.Sort.Walk0
import Derived.Test.YtonjaaljnjjjcaaQP3
/- What 'vc' of these functions comes to, and their calls by it. Printed by dec.py. -/
set_option linter.unusedVariables false
set_option linter.unusedSimpArgs false
namespace Go.Proofs.Ytonjaaljnjjjcaa
open Go

/-- (*creel/disk.Disk).Doom -/
def ir49 (x0 : Option Addr) (x1 : Int) (w0 : World) (R : Value → World → Prop) : Prop :=
  brc (Option.isNone x0)
    (R (.int .i64 2) w0)
    (brc (decide (x1 < (0 : Int)))
        (R (.int .i64 1) w0)
        (optK x0 fun a1 =>
            ∃ (w1 : World),
            Sem.run Pr (Instr.storeAt 4 (.pointer (some (Addr.add a1 5))) (.bool true)) w0 = .ok () w1 ∧
            optK x0 fun a2 =>
              ∃ (w2 : World),
              Sem.run Pr (Instr.storeAt 3 (.pointer (some (Addr.add a2 6))) (.int .i64 x1)) w1 = .ok () w2 ∧
              R (.int .i64 0) w2))

theorem call49 {x0 : Option Addr} {x1 : Int} {w0 : World} {R : Ending → World → Prop} (h : ir49 x0 x1 w0 fun v w => R (.returned v) w) : Calls Pr 49 #[.pointer x0, .int .i64 x1] w0 R := by
  refine calls_of_vc (ann := []) (E := []) (args := [.pointer x0, .int .i64 x1]) follows Try.func49 rfl (by kernel_rfl) ?_
  apply by_eq h
  kernel_rfl

/-- (*creel/disk.Disk).Grow -/
def ir95 (x0 : Option Addr) (x1 : Int) (w0 : World) (R : Value → World → Prop) : Prop :=
  brc (Option.isNone x0)
    (R (.int .i64 2) w0)
    (brc (decide (x1 < (0 : Int)))
        (R (.int .i64 1) w0)
        (optK x0 fun a1 =>
            ∃ (w1 : World),
            Sem.run Pr (Instr.storeAt 3 (.pointer (some (Addr.add a1 3))) (.int .i64 x1)) w0 = .ok () w1 ∧
            R (.int .i64 0) w1))

theorem call95 {x0 : Option Addr} {x1 : Int} {w0 : World} {R : Ending → World → Prop} (h : ir95 x0 x1 w0 fun v w => R (.returned v) w) : Calls Pr 95 #[.pointer x0, .int .i64 x1] w0 R := by
  refine calls_of_vc (ann := []) (E := []) (args := [.pointer x0, .int .i64 x1]) follows Try.func95 rfl (by kernel_rfl) ?_
  apply by_eq h
  kernel_rfl

/-- (*creel/disk.Disk).Names -/
def ir50 (x0 : Option Addr) (w0 : World) (R : Value → World → Prop) : Prop :=
  Calls Pr 91 #[(.pointer x0)] w0 fun e1 w1 =>
    ∃ (n1 : Int),
    e1 = .returned (.int .i64 n1) ∧
    brc (n1 != (0 : Int))
      (R (.tuple #[(.slice none 0 0), (.int .i64 n1)]) w1)
      (optK x0 fun a1 =>
          ∃ (m1 : Option Nat),
          At Pr w1 (loadVar 137 (Addr.add a1 0)) (.map m1) ∧
          Calls Pr 110 #[(.map m1)] w1 fun e2 w2 =>
            ∃ (s1 : SV),
            e2 = .returned (.slice s1.a s1.len s1.cap) ∧
            R (.tuple #[(.slice s1.a s1.len s1.cap), (.int .i64 0)]) w2)

theorem call50 {x0 : Option Addr} {w0 : World} {R : Ending → World → Prop} (h : ir50 x0 w0 fun v w => R (.returned v) w) : Calls Pr 50 #[.pointer x0] w0 R := by
  refine calls_of_vc (ann := []) (E := []) (args := [.pointer x0]) follows Try.func50 rfl (by kernel_rfl) ?_
  apply by_eq h
  kernel_rfl

/-- (creel/disk.names).sorted -/
def ir110 (x0 : Option Nat) (w0 : World) (R : Value → World → Prop) : Prop :=
  ∃ (a1 : Addr) (w1 : World),
  Sem.run Pr (Instr.range 137 (.map x0)) w0 = .ok (.pointer (some a1)) w1 ∧
  LoopT (σ := SV × Unit) (fun σ1 w2 K1 =>
    ∀ _ : Env,
    NextM Pr (.pointer (some a1)) 0 w2
      (fun w3 =>
        Calls Pr 146 #[(.slice σ1.1.a σ1.1.len σ1.1.cap)] w3 fun e1 w5 =>
          e1 = .returned (.tuple #[]) ∧
          R (.slice σ1.1.a σ1.1.len σ1.1.cap) w5)
      (fun k1 v1 w4 =>
        ∃ (str1 : ByteArray),
        ∃ (p1 : Option Addr),
        At Pr w4 (Instr.entry (.pointer (some a1))) (.tuple #[(.string str1), (.pointer p1)]) ∧
        ∃ (s1 : SV) (w6 : World),
        Sem.run Pr (Instr.buildSlice 78 1 #[(0, (.string str1))]) w4 = .ok (.slice s1.a s1.len s1.cap) w6 ∧
        ∃ (s2 : SV) (w7 : World),
        Sem.run Pr (Builtin.append_ #[78, 78] 78 #[(.slice σ1.1.a σ1.1.len σ1.1.cap), (.slice s1.a s1.len s1.cap)]) w6 = .ok (.slice s2.a s2.len s2.cap) w7 ∧
        K1 (s2, ()) w7)) (SV.mk none 0 0, ()) w1

theorem call110 {x0 : Option Nat} {w0 : World} {R : Ending → World → Prop} (h : ir110 x0 w0 fun v w => R (.returned v) w) : Calls Pr 110 #[.map x0] w0 R := by
  refine calls_of_vc (ann := [(3, [(3, .slice)])]) (E := [(6, 137)]) (args := [.map x0]) follows Try.func110 rfl (by kernel_rfl) ?_
  apply by_eq h
  kernel_rfl

/-- (*creel/disk.Disk).Crash -/
def ir45 (x0 : Option Addr) (x1_Names : Int) (x1_Bytes : SV) (w0 : World) (R : Value → World → Prop) : Prop :=
  ∃ (a1 : Addr) (w1 : World),
  Sem.run Pr (Instr.box 63 (.agg #[(.int .i64 x1_Names), (.slice x1_Bytes.a x1_Bytes.len x1_Bytes.cap)])) w0 = .ok (.pointer (some a1)) w1 ∧
  brc (Option.isNone x0)
    (R (.int .i64 2) w1)
    (optK x0 fun a2 =>
        ∃ (m1 : Option Nat),
        At Pr w1 (loadVar 137 (Addr.add a2 1)) (.map m1) ∧
        Calls Pr 108 #[(.map m1)] w1 fun e1 w2 =>
          ∃ (m2 : Option Nat),
          e1 = .returned (.map m2) ∧
          ∃ (S1 : World → Prop),
          S1 (World.drew w2) ∧
          optK x0 fun a3 =>
            ∃ (s1 : SV),
            AtS Pr S1 (loadVar 138 (Addr.add a3 2)) (.slice s1.a s1.len s1.cap) ∧
            ∃ (n1 : Int),
            AtS Pr S1 (loadVar 3 (Addr.add a1 0)) (.int .i64 n1) ∧
            optK x0 fun a4 =>
              ∃ (s2 : SV),
              AtS Pr S1 (loadVar 138 (Addr.add a4 2)) (.slice s2.a s2.len s2.cap) ∧
              ((0 : Int) ≤ (if ((s2.len : Nat) : Int) < (if 0 > n1 then 0 else n1) then ((s2.len : Nat) : Int) else (if 0 > n1 then 0 else n1)) ∧ (if ((s2.len : Nat) : Int) < (if 0 > n1 then 0 else n1) then ((s2.len : Nat) : Int) else (if 0 > n1 then 0 else n1)) ≤ ((s1.cap : Nat) : Int)) ∧
              LoopT (σ := Int × Unit) (fun σ1 w3 K1 =>
                ∀ _ : Env,
                brc (decide (σ1.1 < ((((Int.toNat (if ((s2.len : Nat) : Int) < (if 0 > n1 then 0 else n1) then ((s2.len : Nat) : Int) else (if 0 > n1 then 0 else n1))) - 0 : Nat) : Int))))
                  (((0 : Int) ≤ σ1.1 ∧ σ1.1 < (((Int.toNat (if ((s2.len : Nat) : Int) < (if 0 > n1 then 0 else n1) then ((s2.len : Nat) : Int) else (if 0 > n1 then 0 else n1))) - 0 : Nat) : Int)) ∧
                    optK (cutAt s1.a 0 s1.cap 3) fun a5 =>
                      ∃ (str1 : ByteArray) (str2 : ByteArray) (p1 : Option Addr),
                      At Pr w3 (loadVar 153 (Addr.add a5 (Int.toNat σ1.1 * 3))) (.agg #[(.string str1), (.string str2), (.pointer p1)]) ∧
                      ∃ (a6 : Addr) (w4 : World),
                      Sem.run Pr (Instr.alloc 153 true (.tuple #[])) w3 = .ok (.pointer (some a6)) w4 ∧
                      ∃ (w5 : World),
                      Sem.run Pr (Instr.storeAt 153 (.pointer (some a6)) (.agg #[(.string str1), (.string str2), (.pointer p1)])) w4 = .ok () w5 ∧
                      ∃ (str3 : ByteArray) (str4 : ByteArray) (p2 : Option Addr),
                      At Pr w5 (loadVar 153 a6) (.agg #[(.string str3), (.string str4), (.pointer p2)]) ∧
                      Calls Pr 109 #[(.map m2), (.agg #[(.string str3), (.string str4), (.pointer p2)])] w5 fun e2 w6 =>
                        e2 = .returned (.tuple #[]) ∧
                        K1 (IntKind.wrap .i64 (σ1.1 + 1), ()) w6)
                  (Calls Pr 110 #[(.map m2)] w3 fun e3 w7 =>
                      ∃ (s3 : SV),
                      e3 = .returned (.slice s3.a s3.len s3.cap) ∧
                      LoopT (σ := Int × Unit) (fun σ2 w8 K2 =>
                        ∀ _ : Env,
                        brc (decide (σ2.1 < ((s3.len : Nat) : Int)))
                          (((0 : Int) ≤ σ2.1 ∧ σ2.1 < ((s3.len : Nat) : Int)) ∧
                            optK s3.a fun a7 =>
                              ∃ (str5 : ByteArray),
                              At Pr w8 (loadVar 9 (Addr.add a7 (Int.toNat σ2.1 * 1))) (.string str5) ∧
                              ∃ (p3 : Option Addr),
                              At Pr w8 (Instr.lookup 137 (.map m2) (.string str5) false) (.pointer p3) ∧
                              ∃ (s4 : SV),
                              At Pr w8 (loadVar 61 (Addr.add a1 1)) (.slice s4.a s4.len s4.cap) ∧
                              brc (decide (((s4.len : Nat) : Int) > (0 : Int)))
                                (∃ (S2 : World → Prop),
                                  S2 (World.drew w8) ∧
                                  ∃ (s5 : SV),
                                  AtS Pr S2 (loadVar 61 (Addr.add a1 1)) (.slice s5.a s5.len s5.cap) ∧
                                  ∃ (s6 : SV),
                                  AtS Pr S2 (loadVar 61 (Addr.add a1 1)) (.slice s6.a s6.len s6.cap) ∧
                                  ((s6.len : Nat) : Int) ≠ 0 ∧
                                  ((0 : Int) ≤ (Int.tmod σ2.1 ((s6.len : Nat) : Int)) ∧ (Int.tmod σ2.1 ((s6.len : Nat) : Int)) < ((s5.len : Nat) : Int)) ∧
                                  optK s5.a fun a8 =>
                                    ∃ (n2 : Int),
                                    AtS Pr S2 (loadVar 3 (Addr.add a8 (Int.toNat (Int.tmod σ2.1 ((s6.len : Nat) : Int)) * 1))) (.int .i64 n2) ∧
                                    optK p3 fun a9 =>
                                      ∃ (s7 : SV),
                                      AtS Pr S2 (loadVar 26 (Addr.add a9 0)) (.slice s7.a s7.len s7.cap) ∧
                                      optK p3 fun a10 =>
                                        ∃ (n3 : Int),
                                        AtS Pr S2 (loadVar 3 (Addr.add a10 1)) (.int .i64 n3) ∧
                                        optK p3 fun a11 =>
                                          ∃ (n4 : Int),
                                          At Pr (World.drew w8) (loadVar 3 (Addr.add a11 1)) (.int .i64 n4) ∧
                                          optK p3 fun a12 =>
                                            ∃ (s8 : SV),
                                            At Pr (World.drew w8) (loadVar 26 (Addr.add a12 0)) (.slice s8.a s8.len s8.cap) ∧
                                            ((0 : Int) ≤ (IntKind.wrap .i64 (n4 + (if (IntKind.wrap .i64 (((s7.len : Nat) : Int) - n3)) < (if 0 > n2 then 0 else n2) then (IntKind.wrap .i64 (((s7.len : Nat) : Int) - n3)) else (if 0 > n2 then 0 else n2)))) ∧ (IntKind.wrap .i64 (n4 + (if (IntKind.wrap .i64 (((s7.len : Nat) : Int) - n3)) < (if 0 > n2 then 0 else n2) then (IntKind.wrap .i64 (((s7.len : Nat) : Int) - n3)) else (if 0 > n2 then 0 else n2)))) ≤ ((s8.cap : Nat) : Int)) ∧
                                            ((0 : Int) ≤ (IntKind.wrap .i64 (n4 + (if (IntKind.wrap .i64 (((s7.len : Nat) : Int) - n3)) < (if 0 > n2 then 0 else n2) then (IntKind.wrap .i64 (((s7.len : Nat) : Int) - n3)) else (if 0 > n2 then 0 else n2)))) ∧ (IntKind.wrap .i64 (n4 + (if (IntKind.wrap .i64 (((s7.len : Nat) : Int) - n3)) < (if 0 > n2 then 0 else n2) then (IntKind.wrap .i64 (((s7.len : Nat) : Int) - n3)) else (if 0 > n2 then 0 else n2)))) ≤ ((Int.toNat (IntKind.wrap .i64 (n4 + (if (IntKind.wrap .i64 (((s7.len : Nat) : Int) - n3)) < (if 0 > n2 then 0 else n2) then (IntKind.wrap .i64 (((s7.len : Nat) : Int) - n3)) else (if 0 > n2 then 0 else n2)))) : Nat) : Int)) ∧
                                            ∃ (a13 : Addr) (w9 : World),
                                            Sem.run Pr (Instr.box 146 (.agg #[(.slice (cutAt s8.a 0 (Int.toNat (IntKind.wrap .i64 (n4 + (if (IntKind.wrap .i64 (((s7.len : Nat) : Int) - n3)) < (if 0 > n2 then 0 else n2) then (IntKind.wrap .i64 (((s7.len : Nat) : Int) - n3)) else (if 0 > n2 then 0 else n2))))) 1) ((Int.toNat (IntKind.wrap .i64 (n4 + (if (IntKind.wrap .i64 (((s7.len : Nat) : Int) - n3)) < (if 0 > n2 then 0 else n2) then (IntKind.wrap .i64 (((s7.len : Nat) : Int) - n3)) else (if 0 > n2 then 0 else n2))))) - 0) ((Int.toNat (IntKind.wrap .i64 (n4 + (if (IntKind.wrap .i64 (((s7.len : Nat) : Int) - n3)) < (if 0 > n2 then 0 else n2) then (IntKind.wrap .i64 (((s7.len : Nat) : Int) - n3)) else (if 0 > n2 then 0 else n2))))) - 0)), (.int .i64 (IntKind.wrap .i64 (n4 + (if (IntKind.wrap .i64 (((s7.len : Nat) : Int) - n3)) < (if 0 > n2 then 0 else n2) then (IntKind.wrap .i64 (((s7.len : Nat) : Int) - n3)) else (if 0 > n2 then 0 else n2)))))])) (World.drew w8) = .ok (.pointer (some a13)) w9 ∧
                                            ∃ (w10 : World),
                                            Sem.run Pr (Instr.mapUpdate 137 (.map m2) (.string str5) (.pointer (some a13))) w9 = .ok () w10 ∧
                                            K2 (IntKind.wrap .i64 (σ2.1 + 1), ()) w10)
                                (optK p3 fun a14 =>
                                    ∃ (n5 : Int),
                                    At Pr w8 (loadVar 3 (Addr.add a14 1)) (.int .i64 n5) ∧
                                    optK p3 fun a15 =>
                                      ∃ (s9 : SV),
                                      At Pr w8 (loadVar 26 (Addr.add a15 0)) (.slice s9.a s9.len s9.cap) ∧
                                      ((0 : Int) ≤ (IntKind.wrap .i64 (n5 + 0)) ∧ (IntKind.wrap .i64 (n5 + 0)) ≤ ((s9.cap : Nat) : Int)) ∧
                                      ((0 : Int) ≤ (IntKind.wrap .i64 (n5 + 0)) ∧ (IntKind.wrap .i64 (n5 + 0)) ≤ ((Int.toNat (IntKind.wrap .i64 (n5 + 0)) : Nat) : Int)) ∧
                                      ∃ (a16 : Addr) (w11 : World),
                                      Sem.run Pr (Instr.box 146 (.agg #[(.slice (cutAt s9.a 0 (Int.toNat (IntKind.wrap .i64 (n5 + 0))) 1) ((Int.toNat (IntKind.wrap .i64 (n5 + 0))) - 0) ((Int.toNat (IntKind.wrap .i64 (n5 + 0))) - 0)), (.int .i64 (IntKind.wrap .i64 (n5 + 0)))])) w8 = .ok (.pointer (some a16)) w11 ∧
                                      ∃ (w12 : World),
                                      Sem.run Pr (Instr.mapUpdate 137 (.map m2) (.string str5) (.pointer (some a16))) w11 = .ok () w12 ∧
                                      K2 (IntKind.wrap .i64 (σ2.1 + 1), ()) w12))
                          (∃ (S3 : World → Prop),
                            S3 (World.drew w8) ∧
                            optK x0 fun a17 =>
                              ∃ (n6 : Int),
                              AtS Pr S3 (loadVar 3 (Addr.add a17 3)) (.int .i64 n6) ∧
                              Calls Pr 108 #[(.map m2)] (World.drew w8) fun e4 w13 =>
                                ∃ (m3 : Option Nat),
                                e4 = .returned (.map m3) ∧
                                ∃ (S4 : World → Prop),
                                (∀ w, S4 w → S3 w) ∧
                                S4 w13 ∧
                                optK x0 fun a18 =>
                                  ∃ (w14 : World),
                                  Sem.run Pr (Instr.storeAt 140 (.pointer (some a18)) (.agg #[(.map m2), (.map m3), (.slice none 0 0), (.int .i64 n6), (.bool false), (.bool false), (.int .i64 0)])) w13 = .ok () w14 ∧
                                  ∃ (S5 : World → Prop),
                                  S5 w14 ∧
                                  R (.int .i64 0) w14)) (0, ()) w7)) (0, ()) (World.drew w2))

theorem call45 {x0 : Option Addr} {x1_Names : Int} {x1_Bytes : SV} {w0 : World} {R : Ending → World → Prop} (h : ir45 x0 x1_Names x1_Bytes w0 fun v w => R (.returned v) w) : Calls Pr 45 #[.pointer x0, .agg #[(.int .i64 x1_Names), (.slice x1_Bytes.a x1_Bytes.len x1_Bytes.cap)]] w0 R := by
  refine calls_of_vc (ann := [(5, [(35, .int .i64)]), (10, [(46, .int .i64)])]) (E := []) (args := [.pointer x0, .agg #[(.int .i64 x1_Names), (.slice x1_Bytes.a x1_Bytes.len x1_Bytes.cap)]]) follows Try.func45 rfl (by kernel_rfl) ?_
  apply by_eq h
  kernel_rfl

/-- (*creel/disk.Disk).Clone -/
def ir42 (x0 : Option Addr) (w0 : World) (R : Value → World → Prop) : Prop :=
  brc (Option.isNone x0)
    (R (.pointer none) w0)
    (optK x0 fun a1 =>
        ∃ (m1 : Option Nat) (m2 : Option Nat) (s1 : SV) (n1 : Int) (b1 : Bool) (b2 : Bool) (n2 : Int),
        At Pr w0 (loadVar 140 a1) (.agg #[(.map m1), (.map m2), (.slice s1.a s1.len s1.cap), (.int .i64 n1), (.bool b1), (.bool b2), (.int .i64 n2)]) ∧
        ∃ (a2 : Addr) (w1 : World),
        Sem.run Pr (Instr.alloc 140 true (.tuple #[])) w0 = .ok (.pointer (some a2)) w1 ∧
        ∃ (w2 : World),
        Sem.run Pr (Instr.storeAt 140 (.pointer (some a2)) (.agg #[(.map m1), (.map m2), (.slice s1.a s1.len s1.cap), (.int .i64 n1), (.bool b1), (.bool b2), (.int .i64 n2)])) w1 = .ok () w2 ∧
        ∃ (m3 : Nat) (w3 : World),
        Sem.run Pr (Instr.makeMap 170 none) w2 = .ok (.map (some m3)) w3 ∧
        ∃ (a3 : Addr) (w4 : World),
        Sem.run Pr (Instr.alloc 170 true (.tuple #[])) w3 = .ok (.pointer (some a3)) w4 ∧
        ∃ (w5 : World),
        Sem.run Pr (Instr.storeAt 170 (.pointer (some a3)) (.map (some m3))) w4 = .ok () w5 ∧
        ∃ (m4 : Nat) (w6 : World),
        Sem.run Pr (Instr.makeMap 137 none) w5 = .ok (.map (some m4)) w6 ∧
        ∃ (m5 : Nat) (w7 : World),
        Sem.run Pr (Instr.makeMap 137 none) w6 = .ok (.map (some m5)) w7 ∧
        ∃ (w8 : World),
        Sem.run Pr (Instr.storeAt 137 (.pointer (some (Addr.add a2 0))) (.map (some m4))) w7 = .ok () w8 ∧
        ∃ (w9 : World),
        Sem.run Pr (Instr.storeAt 137 (.pointer (some (Addr.add a2 1))) (.map (some m5))) w8 = .ok () w9 ∧
        ∃ (w10 : World),
        Sem.run Pr (Instr.storeAt 138 (.pointer (some (Addr.add a2 2))) (.slice none 0 0)) w9 = .ok () w10 ∧
        optK x0 fun a4 =>
          ∃ (m6 : Option Nat),
          At Pr w10 (loadVar 137 (Addr.add a4 0)) (.map m6) ∧
          ∃ (a5 : Addr) (w11 : World),
          Sem.run Pr (Instr.range 137 (.map m6)) w10 = .ok (.pointer (some a5)) w11 ∧
          LoopT (σ := Unit) (fun σ1 w12 K1 =>
            ∀ _ : Env,
            NextM Pr (.pointer (some a5)) 0 w12
              (fun w13 =>
                optK x0 fun a6 =>
                  ∃ (m7 : Option Nat),
                  At Pr w13 (loadVar 137 (Addr.add a6 1)) (.map m7) ∧
                  ∃ (a7 : Addr) (w15 : World),
                  Sem.run Pr (Instr.range 137 (.map m7)) w13 = .ok (.pointer (some a7)) w15 ∧
                  LoopT (σ := Unit) (fun σ2 w16 K2 =>
                    ∀ _ : Env,
                    NextM Pr (.pointer (some a7)) 0 w16
                      (fun w17 =>
                        optK x0 fun a8 =>
                          ∃ (s2 : SV),
                          At Pr w17 (loadVar 138 (Addr.add a8 2)) (.slice s2.a s2.len s2.cap) ∧
                          LoopT (σ := Int × Unit) (fun σ3 w19 K3 =>
                            ∀ _ : Env,
                            brc (decide (σ3.1 < ((s2.len : Nat) : Int)))
                              (((0 : Int) ≤ σ3.1 ∧ σ3.1 < ((s2.len : Nat) : Int)) ∧
                                optK s2.a fun a9 =>
                                  ∃ (str1 : ByteArray) (str2 : ByteArray) (p1 : Option Addr),
                                  At Pr w19 (loadVar 153 (Addr.add a9 (Int.toNat σ3.1 * 3))) (.agg #[(.string str1), (.string str2), (.pointer p1)]) ∧
                                  ∃ (a10 : Addr) (w20 : World),
                                  Sem.run Pr (Instr.alloc 153 true (.tuple #[])) w19 = .ok (.pointer (some a10)) w20 ∧
                                  ∃ (w21 : World),
                                  Sem.run Pr (Instr.storeAt 153 (.pointer (some a10)) (.agg #[(.string str1), (.string str2), (.pointer p1)])) w20 = .ok () w21 ∧
                                  ∃ (p2 : Option Addr),
                                  At Pr w21 (loadVar 141 (Addr.add a10 2)) (.pointer p2) ∧
                                  callV Pr (.func (.func 106) #[] #[(.pointer (some a3))]) [(.pointer p2)] w21 fun e1 w22 =>
                                    ∃ (p3 : Option Addr),
                                    e1 = .returned (.pointer p3) ∧
                                    ∃ (w23 : World),
                                    Sem.run Pr (Instr.storeAt 141 (.pointer (some (Addr.add a10 2))) (.pointer p3)) w22 = .ok () w23 ∧
                                    ∃ (s3 : SV),
                                    At Pr w23 (loadVar 138 (Addr.add a2 2)) (.slice s3.a s3.len s3.cap) ∧
                                    ∃ (str3 : ByteArray) (str4 : ByteArray) (p4 : Option Addr),
                                    At Pr w23 (loadVar 153 a10) (.agg #[(.string str3), (.string str4), (.pointer p4)]) ∧
                                    ∃ (s4 : SV) (w24 : World),
                                    Sem.run Pr (Instr.buildSlice 138 1 #[(0, (.agg #[(.string str3), (.string str4), (.pointer p4)]))]) w23 = .ok (.slice s4.a s4.len s4.cap) w24 ∧
                                    ∃ (s5 : SV) (w25 : World),
                                    Sem.run Pr (Builtin.append_ #[138, 138] 138 #[(.slice s3.a s3.len s3.cap), (.slice s4.a s4.len s4.cap)]) w24 = .ok (.slice s5.a s5.len s5.cap) w25 ∧
                                    ∃ (w26 : World),
                                    Sem.run Pr (Instr.storeAt 138 (.pointer (some (Addr.add a2 2))) (.slice s5.a s5.len s5.cap)) w25 = .ok () w26 ∧
                                    K3 (IntKind.wrap .i64 (σ3.1 + 1), ()) w26)
                              (R (.pointer (some a2)) w19)) (0, ()) w17)
                      (fun k2 v2 w18 =>
                        ∃ (str5 : ByteArray),
                        ∃ (p5 : Option Addr),
                        At Pr w18 (Instr.entry (.pointer (some a7))) (.tuple #[(.string str5), (.pointer p5)]) ∧
                        ∃ (S1 : World → Prop),
                        S1 (World.drew w18) ∧
                        ∃ (m8 : Option Nat),
                        AtS Pr S1 (loadVar 137 (Addr.add a2 1)) (.map m8) ∧
                        callV Pr (.func (.func 106) #[] #[(.pointer (some a3))]) [(.pointer p5)] (World.drew w18) fun e2 w27 =>
                          ∃ (p6 : Option Addr),
                          e2 = .returned (.pointer p6) ∧
                          ∃ (S2 : World → Prop),
                          (∀ w, S2 w → S1 w) ∧
                          S2 w27 ∧
                          ∃ (w28 : World),
                          Sem.run Pr (Instr.mapUpdate 137 (.map m8) (.string str5) (.pointer p6)) w27 = .ok () w28 ∧
                          ∃ (S3 : World → Prop),
                          S3 w28 ∧
                          K2 (()) w28)) (()) w15)
              (fun k1 v1 w14 =>
                ∃ (str6 : ByteArray),
                ∃ (p7 : Option Addr),
                At Pr w14 (Instr.entry (.pointer (some a5))) (.tuple #[(.string str6), (.pointer p7)]) ∧
                ∃ (S4 : World → Prop),
                S4 (World.drew w14) ∧
                ∃ (m9 : Option Nat),
                AtS Pr S4 (loadVar 137 (Addr.add a2 0)) (.map m9) ∧
                callV Pr (.func (.func 106) #[] #[(.pointer (some a3))]) [(.pointer p7)] (World.drew w14) fun e3 w29 =>
                  ∃ (p8 : Option Addr),
                  e3 = .returned (.pointer p8) ∧
                  ∃ (S5 : World → Prop),
                  (∀ w, S5 w → S4 w) ∧
                  S5 w29 ∧
                  ∃ (w30 : World),
                  Sem.run Pr (Instr.mapUpdate 137 (.map m9) (.string str6) (.pointer p8)) w29 = .ok () w30 ∧
                  ∃ (S6 : World → Prop),
                  S6 w30 ∧
                  K1 (()) w30)) (()) w11)

theorem call42 {x0 : Option Addr} {w0 : World} {R : Ending → World → Prop} (h : ir42 x0 w0 fun v w => R (.returned v) w) : Calls Pr 42 #[.pointer x0] w0 R := by
  refine calls_of_vc (ann := [(8, []), (12, []), (16, [(61, .int .i64)])]) (E := [(28, 137), (44, 137)]) (args := [.pointer x0]) follows Try.func42 rfl (by kernel_rfl) ?_
  apply by_eq h
  kernel_rfl

/-- (*creel/disk.Disk).Clone$1 -/
def ir106 (x0 : Option Addr) (c0 : Addr) (w0 : World) (R : Value → World → Prop) : Prop :=
  brc (!(Option.isNone x0))
    (∃ (m1 : Option Nat),
      At Pr w0 (loadVar 170 c0) (.map m1) ∧
      ∃ (p1 : Option Addr),
      At Pr w0 (Instr.lookup 170 (.map m1) (.pointer x0) false) (.pointer p1) ∧
      brc (Option.isNone p1)
        (∃ (S1 : World → Prop),
          S1 (World.drew w0) ∧
          ∃ (m2 : Option Nat),
          AtS Pr S1 (loadVar 170 c0) (.map m2) ∧
          optK x0 fun a1 =>
            ∃ (s1 : SV),
            AtS Pr S1 (loadVar 26 (Addr.add a1 0)) (.slice s1.a s1.len s1.cap) ∧
            optK x0 fun a2 =>
              ∃ (n1 : Int),
              AtS Pr S1 (loadVar 3 (Addr.add a2 1)) (.int .i64 n1) ∧
              ∃ (a3 : Addr) (w1 : World),
              Sem.run Pr (Instr.box 146 (.agg #[(.slice s1.a s1.len s1.cap), (.int .i64 n1)])) (World.drew w0) = .ok (.pointer (some a3)) w1 ∧
              ∃ (S2 : World → Prop),
              (∀ w, S2 w → S1 w) ∧
              S2 w1 ∧
              ∃ (w2 : World),
              Sem.run Pr (Instr.mapUpdate 170 (.map m2) (.pointer x0) (.pointer (some a3))) w1 = .ok () w2 ∧
              ∃ (S3 : World → Prop),
              S3 w2 ∧
              ∃ (m3 : Option Nat),
              At Pr w2 (loadVar 170 c0) (.map m3) ∧
              ∃ (p2 : Option Addr),
              At Pr w2 (Instr.lookup 170 (.map m3) (.pointer x0) false) (.pointer p2) ∧
              R (.pointer p2) w2)
        (∃ (m4 : Option Nat),
          At Pr w0 (loadVar 170 c0) (.map m4) ∧
          ∃ (p3 : Option Addr),
          At Pr w0 (Instr.lookup 170 (.map m4) (.pointer x0) false) (.pointer p3) ∧
          R (.pointer p3) w0))
    (∃ (m5 : Option Nat),
      At Pr w0 (loadVar 170 c0) (.map m5) ∧
      ∃ (p4 : Option Addr),
      At Pr w0 (Instr.lookup 170 (.map m5) (.pointer x0) false) (.pointer p4) ∧
      R (.pointer p4) w0)

theorem call106 {x0 : Option Addr} {c0 : Addr} {w0 : World} {R : Ending → World → Prop} (h : ir106 x0 c0 w0 fun v w => R (.returned v) w) : Calls Pr 106 #[.pointer x0, .pointer (some c0)] w0 R := by
  refine calls_of_vc (ann := []) (E := []) (args := [.pointer x0, .pointer (some c0)]) follows Try.func106 rfl (by kernel_rfl) ?_
  apply by_eq h
  kernel_rfl

/-- creel/creelref04.New -/
def ir36 (x0 : Int) (w0 : World) (R : Value → World → Prop) : Prop :=
  ∃ (a1 : Addr) (w1 : World),
  Sem.run Pr (Instr.box 159 (.agg #[(.slice none 0 0), (.slice none 0 0), (.slice none 0 0), (.slice none 0 0), (.int .i64 (if 0 > x0 then 0 else x0)), (.bool false), (.bool false), (.int .i64 0)])) w0 = .ok (.pointer (some a1)) w1 ∧
  R (.pointer (some a1)) w1

theorem call36 {x0 : Int} {w0 : World} {R : Ending → World → Prop} (h : ir36 x0 w0 fun v w => R (.returned v) w) : Calls Pr 36 #[.int .i64 x0] w0 R := by
  refine calls_of_vc (ann := []) (E := []) (args := [.int .i64 x0]) follows Try.func36 rfl (by kernel_rfl) ?_
  apply by_eq h
  kernel_rfl

/-- (*creel/creelref04.Disk).Used -/
def ir41 (x0 : Option Addr) (w0 : World) (R : Value → World → Prop) : Prop :=
  optK x0 fun a1 =>
    ∃ (s1 : SV),
    At Pr w0 (loadVar 155 (Addr.add a1 0)) (.slice s1.a s1.len s1.cap) ∧
    ∃ (s2 : SV) (w1 : World),
    Sem.run Pr (Instr.makeSlice 161 (.int .i64 ((s1.len : Nat) : Int)) (.int .i64 ((s1.len : Nat) : Int))) w0 = .ok (.slice s2.a s2.len s2.cap) w1 ∧
    optK x0 fun a2 =>
      ∃ (s3 : SV),
      At Pr w1 (loadVar 156 (Addr.add a2 2)) (.slice s3.a s3.len s3.cap) ∧
      LoopT (σ := Int × Unit) (fun σ1 w2 K1 =>
        ∀ _ : Env,
        brc (decide (σ1.1 < ((s3.len : Nat) : Int)))
          (((0 : Int) ≤ σ1.1 ∧ σ1.1 < ((s3.len : Nat) : Int)) ∧
            optK s3.a fun a3 =>
              ∃ (n1 : Int),
              At Pr w2 (loadVar 3 (Addr.add (Addr.add a3 (Int.toNat σ1.1 * 2)) 1)) (.int .i64 n1) ∧
              ((0 : Int) ≤ n1 ∧ n1 < ((s2.len : Nat) : Int)) ∧
              optK s2.a fun a4 =>
                ∃ (w3 : World),
                Sem.run Pr (Instr.storeAt 4 (.pointer (some (Addr.add a4 (Int.toNat n1 * 1)))) (.bool true)) w2 = .ok () w3 ∧
                K1 (IntKind.wrap .i64 (σ1.1 + 1), ()) w3)
          (LoopT (σ := Int × SV × Unit) (fun σ2 w4 K2 =>
              ∀ _ : Env,
              optK x0 fun a5 =>
                ∃ (s4 : SV),
                At Pr w4 (loadVar 157 (Addr.add a5 3)) (.slice s4.a s4.len s4.cap) ∧
                brc (decide (σ2.1 < ((s4.len : Nat) : Int)))
                  (optK x0 fun a6 =>
                      ∃ (s5 : SV),
                      At Pr w4 (loadVar 157 (Addr.add a6 3)) (.slice s5.a s5.len s5.cap) ∧
                      ((0 : Int) ≤ σ2.1 ∧ σ2.1 < ((s5.len : Nat) : Int)) ∧
                      optK s5.a fun a7 =>
                        ∃ (str1 : ByteArray) (str2 : ByteArray) (n2 : Int),
                        At Pr w4 (loadVar 166 (Addr.add a7 (Int.toNat σ2.1 * 3))) (.agg #[(.string str1), (.string str2), (.int .i64 n2)]) ∧
                        Calls Pr 104 #[(.slice σ2.2.1.a σ2.2.1.len σ2.2.1.cap), (.agg #[(.string str1), (.string str2), (.int .i64 n2)])] w4 fun e1 w5 =>
                          ∃ (s6 : SV),
                          e1 = .returned (.slice s6.a s6.len s6.cap) ∧
                          optK x0 fun a8 =>
                            ∃ (s7 : SV),
                            At Pr w5 (loadVar 157 (Addr.add a8 3)) (.slice s7.a s7.len s7.cap) ∧
                            ((0 : Int) ≤ σ2.1 ∧ σ2.1 < ((s7.len : Nat) : Int)) ∧
                            optK s7.a fun a9 =>
                              ∃ (str3 : ByteArray),
                              At Pr w5 (loadVar 9 (Addr.add (Addr.add a9 (Int.toNat σ2.1 * 3)) 1)) (.string str3) ∧
                              Calls Pr 105 #[(.slice s6.a s6.len s6.cap), (.string str3)] w5 fun e2 w6 =>
                                ∃ (n3 : Int),
                                e2 = .returned (.int .i64 n3) ∧
                                brc (decide (n3 ≥ (0 : Int)))
                                  (((0 : Int) ≤ n3 ∧ n3 < ((s2.len : Nat) : Int)) ∧
                                    optK s2.a fun a10 =>
                                      ∃ (w7 : World),
                                      Sem.run Pr (Instr.storeAt 4 (.pointer (some (Addr.add a10 (Int.toNat n3 * 1)))) (.bool true)) w6 = .ok () w7 ∧
                                      K2 (IntKind.wrap .i64 (σ2.1 + 1), s6, ()) w7)
                                  (K2 (IntKind.wrap .i64 (σ2.1 + 1), s6, ()) w6))
                  (LoopT (σ := Int × Int × Unit) (fun σ3 w8 K3 =>
                      ∀ _ : Env,
                      brc (decide (σ3.1 < ((s2.len : Nat) : Int)))
                        (((0 : Int) ≤ σ3.1 ∧ σ3.1 < ((s2.len : Nat) : Int)) ∧
                          optK s2.a fun a11 =>
                            ∃ (b1 : Bool),
                            At Pr w8 (loadVar 4 (Addr.add a11 (Int.toNat σ3.1 * 1))) (.bool b1) ∧
                            brc (b1)
                              (optK x0 fun a12 =>
                                  ∃ (s8 : SV),
                                  At Pr w8 (loadVar 155 (Addr.add a12 0)) (.slice s8.a s8.len s8.cap) ∧
                                  ((0 : Int) ≤ σ3.1 ∧ σ3.1 < ((s8.len : Nat) : Int)) ∧
                                  optK s8.a fun a13 =>
                                    ∃ (s9 : SV),
                                    At Pr w8 (loadVar 26 (Addr.add (Addr.add a13 (Int.toNat σ3.1 * 2)) 0)) (.slice s9.a s9.len s9.cap) ∧
                                    K3 (IntKind.wrap .i64 (σ3.1 + 1), IntKind.wrap .i64 (σ3.2.1 + ((s9.len : Nat) : Int)), ()) w8)
                              (K3 (IntKind.wrap .i64 (σ3.1 + 1), σ3.2.1, ()) w8))
                        (R (.int .i64 σ3.2.1) w8)) (0, 0, ()) w4)) (0, s3, ()) w2)) (0, ()) w1

theorem call41 {x0 : Option Addr} {w0 : World} {R : Ending → World → Prop} (h : ir41 x0 w0 fun v w => R (.returned v) w) : Calls Pr 41 #[.pointer x0] w0 R := by
  refine calls_of_vc (ann := [(4, [(5, .int .i64)]), (8, [(6, .int .i64), (4, .slice)]), (16, [(9, .int .i64), (8, .int .i64)])]) (E := []) (args := [.pointer x0]) follows Try.func41 rfl (by kernel_rfl) ?_
  apply by_eq h
  kernel_rfl

/-- (*creel/creelref04.Disk).Clone -/
def ir44 (x0 : Option Addr) (w0 : World) (R : Value → World → Prop) : Prop :=
  optK x0 fun a1 =>
    ∃ (s1 : SV) (s2 : SV) (s3 : SV) (s4 : SV) (n1 : Int) (b1 : Bool) (b2 : Bool) (n2 : Int),
    At Pr w0 (loadVar 159 a1) (.agg #[(.slice s1.a s1.len s1.cap), (.slice s2.a s2.len s2.cap), (.slice s3.a s3.len s3.cap), (.slice s4.a s4.len s4.cap), (.int .i64 n1), (.bool b1), (.bool b2), (.int .i64 n2)]) ∧
    ∃ (a2 : Addr) (w1 : World),
    Sem.run Pr (Instr.alloc 159 true (.tuple #[])) w0 = .ok (.pointer (some a2)) w1 ∧
    ∃ (w2 : World),
    Sem.run Pr (Instr.storeAt 159 (.pointer (some a2)) (.agg #[(.slice s1.a s1.len s1.cap), (.slice s2.a s2.len s2.cap), (.slice s3.a s3.len s3.cap), (.slice s4.a s4.len s4.cap), (.int .i64 n1), (.bool b1), (.bool b2), (.int .i64 n2)])) w1 = .ok () w2 ∧
    ∃ (s5 : SV) (w3 : World),
    Sem.run Pr (Instr.buildSlice 155 0 #[]) w2 = .ok (.slice s5.a s5.len s5.cap) w3 ∧
    optK x0 fun a3 =>
      ∃ (s6 : SV),
      At Pr w3 (loadVar 155 (Addr.add a3 0)) (.slice s6.a s6.len s6.cap) ∧
      ∃ (s7 : SV) (w4 : World),
      Sem.run Pr (Builtin.append_ #[155, 155] 155 #[(.slice s5.a s5.len s5.cap), (.slice s6.a s6.len s6.cap)]) w3 = .ok (.slice s7.a s7.len s7.cap) w4 ∧
      ∃ (w5 : World),
      Sem.run Pr (Instr.storeAt 155 (.pointer (some (Addr.add a2 0))) (.slice s7.a s7.len s7.cap)) w4 = .ok () w5 ∧
      R (.pointer (some a2)) w5

theorem call44 {x0 : Option Addr} {w0 : World} {R : Ending → World → Prop} (h : ir44 x0 w0 fun v w => R (.returned v) w) : Calls Pr 44 #[.pointer x0] w0 R := by
  refine calls_of_vc (ann := []) (E := []) (args := [.pointer x0]) follows Try.func44 rfl (by kernel_rfl) ?_
  apply by_eq h
  kernel_rfl

/-- (*creel/creelref04.Disk).Crash -/
def ir46 (x0 : Option Addr) (x1_Names : Int) (x1_Bytes : SV) (w0 : World) (R : Value → World → Prop) : Prop :=
  ∃ (a1 : Addr) (w1 : World),
  Sem.run Pr (Instr.box 63 (.agg #[(.int .i64 x1_Names), (.slice x1_Bytes.a x1_Bytes.len x1_Bytes.cap)])) w0 = .ok (.pointer (some a1)) w1 ∧
  optK x0 fun a2 =>
    ∃ (s1 : SV),
    At Pr w1 (loadVar 156 (Addr.add a2 2)) (.slice s1.a s1.len s1.cap) ∧
    LoopT (σ := Int × SV × Unit) (fun σ1 w2 K1 =>
      ∀ _ : Env,
      optK x0 fun a3 =>
        ∃ (s2 : SV),
        At Pr w2 (loadVar 157 (Addr.add a3 3)) (.slice s2.a s2.len s2.cap) ∧
        brc (decide (σ1.1 < ((s2.len : Nat) : Int)))
          (∃ (n1 : Int),
            At Pr w2 (loadVar 3 (Addr.add a1 0)) (.int .i64 n1) ∧
            brc (decide (σ1.1 < n1))
              (optK x0 fun a4 =>
                  ∃ (s3 : SV),
                  At Pr w2 (loadVar 157 (Addr.add a4 3)) (.slice s3.a s3.len s3.cap) ∧
                  ((0 : Int) ≤ σ1.1 ∧ σ1.1 < ((s3.len : Nat) : Int)) ∧
                  optK s3.a fun a5 =>
                    ∃ (str1 : ByteArray) (str2 : ByteArray) (n2 : Int),
                    At Pr w2 (loadVar 166 (Addr.add a5 (Int.toNat σ1.1 * 3))) (.agg #[(.string str1), (.string str2), (.int .i64 n2)]) ∧
                    Calls Pr 104 #[(.slice σ1.2.1.a σ1.2.1.len σ1.2.1.cap), (.agg #[(.string str1), (.string str2), (.int .i64 n2)])] w2 fun e1 w3 =>
                      ∃ (s4 : SV),
                      e1 = .returned (.slice s4.a s4.len s4.cap) ∧
                      K1 (IntKind.wrap .i64 (σ1.1 + 1), s4, ()) w3)
              (LoopT (σ := Int × SV × SV × Unit) (fun σ2 w4 K2 =>
                  ∀ _ : Env,
                  brc (decide (σ2.1 < ((σ1.2.1.len : Nat) : Int)))
                    (∃ (S1 : World → Prop),
                      S1 (World.drew w4) ∧
                      optK x0 fun a6 =>
                        ∃ (s5 : SV),
                        AtS Pr S1 (loadVar 155 (Addr.add a6 0)) (.slice s5.a s5.len s5.cap) ∧
                        ((0 : Int) ≤ σ2.1 ∧ σ2.1 < ((σ1.2.1.len : Nat) : Int)) ∧
                        optK σ1.2.1.a fun a7 =>
                          ∃ (n3 : Int),
                          AtS Pr S1 (loadVar 3 (Addr.add (Addr.add a7 (Int.toNat σ2.1 * 2)) 1)) (.int .i64 n3) ∧
                          ((0 : Int) ≤ n3 ∧ n3 < ((s5.len : Nat) : Int)) ∧
                          optK s5.a fun a8 =>
                            ∃ (s6 : SV) (n4 : Int),
                            AtS Pr S1 (loadVar 169 (Addr.add a8 (Int.toNat n3 * 2))) (.agg #[(.slice s6.a s6.len s6.cap), (.int .i64 n4)]) ∧
                            ∃ (a9 : Addr) (w5 : World),
                            Sem.run Pr (Instr.alloc 169 true (.tuple #[])) (World.drew w4) = .ok (.pointer (some a9)) w5 ∧
                            ∃ (S2 : World → Prop),
                            (∀ w, S2 w → S1 w) ∧
                            S2 w5 ∧
                            ∃ (w6 : World),
                            Sem.run Pr (Instr.storeAt 169 (.pointer (some a9)) (.agg #[(.slice s6.a s6.len s6.cap), (.int .i64 n4)])) w5 = .ok () w6 ∧
                            ∃ (S3 : World → Prop),
                            S3 w6 ∧
                            ∃ (S4 : World → Prop),
                            S4 (World.drew w6) ∧
                            ∃ (n5 : Int),
                            AtS Pr S4 (loadVar 3 (Addr.add a9 1)) (.int .i64 n5) ∧
                            ∃ (n6 : Int) (s7 : SV),
                            AtS Pr S4 (loadVar 63 a1) (.agg #[(.int .i64 n6), (.slice s7.a s7.len s7.cap)]) ∧
                            ∃ (s8 : SV),
                            AtS Pr S4 (loadVar 26 (Addr.add a9 0)) (.slice s8.a s8.len s8.cap) ∧
                            ∃ (n7 : Int),
                            AtS Pr S4 (loadVar 3 (Addr.add a9 1)) (.int .i64 n7) ∧
                            Calls Pr 111 #[(.agg #[(.int .i64 n6), (.slice s7.a s7.len s7.cap)]), (.int .i64 σ2.1), (.int .i64 (IntKind.wrap .i64 (((s8.len : Nat) : Int) - n7)))] (World.drew w6) fun e2 w7 =>
                              ∃ (n8 : Int),
                              e2 = .returned (.int .i64 n8) ∧
                              ∃ (S5 : World → Prop),
                              (∀ w, S5 w → S4 w) ∧
                              S5 w7 ∧
                              ∃ (s9 : SV) (w8 : World),
                              Sem.run Pr (Instr.buildSlice 26 0 #[]) w7 = .ok (.slice s9.a s9.len s9.cap) w8 ∧
                              ∃ (s10 : SV),
                              At Pr w8 (loadVar 26 (Addr.add a9 0)) (.slice s10.a s10.len s10.cap) ∧
                              ((0 : Int) ≤ (IntKind.wrap .i64 (n5 + n8)) ∧ (IntKind.wrap .i64 (n5 + n8)) ≤ ((s10.cap : Nat) : Int)) ∧
                              ∃ (s11 : SV) (w9 : World),
                              Sem.run Pr (Builtin.append_ #[26, 26] 26 #[(.slice s9.a s9.len s9.cap), (.slice (cutAt s10.a 0 s10.cap 1) ((Int.toNat (IntKind.wrap .i64 (n5 + n8))) - 0) (s10.cap - 0))]) w8 = .ok (.slice s11.a s11.len s11.cap) w9 ∧
                              ∃ (s12 : SV) (w10 : World),
                              Sem.run Pr (Instr.buildSlice 155 1 #[(0, (.agg #[(.slice s11.a s11.len s11.cap), (.int .i64 (IntKind.wrap .i64 (n5 + n8)))]))]) w9 = .ok (.slice s12.a s12.len s12.cap) w10 ∧
                              ∃ (s13 : SV) (w11 : World),
                              Sem.run Pr (Builtin.append_ #[155, 155] 155 #[(.slice σ2.2.1.a σ2.2.1.len σ2.2.1.cap), (.slice s12.a s12.len s12.cap)]) w10 = .ok (.slice s13.a s13.len s13.cap) w11 ∧
                              ((0 : Int) ≤ σ2.1 ∧ σ2.1 < ((σ1.2.1.len : Nat) : Int)) ∧
                              optK σ1.2.1.a fun a10 =>
                                ∃ (str3 : ByteArray),
                                At Pr w11 (loadVar 9 (Addr.add (Addr.add a10 (Int.toNat σ2.1 * 2)) 0)) (.string str3) ∧
                                ∃ (s14 : SV) (w12 : World),
                                Sem.run Pr (Instr.buildSlice 156 1 #[(0, (.agg #[(.string str3), (.int .i64 σ2.1)]))]) w11 = .ok (.slice s14.a s14.len s14.cap) w12 ∧
                                ∃ (s15 : SV) (w13 : World),
                                Sem.run Pr (Builtin.append_ #[156, 156] 156 #[(.slice σ2.2.2.1.a σ2.2.2.1.len σ2.2.2.1.cap), (.slice s14.a s14.len s14.cap)]) w12 = .ok (.slice s15.a s15.len s15.cap) w13 ∧
                                K2 (IntKind.wrap .i64 (σ2.1 + 1), s13, s15, ()) w13)
                    (optK x0 fun a11 =>
                        ∃ (w14 : World),
                        Sem.run Pr (Instr.storeAt 155 (.pointer (some (Addr.add a11 0))) (.slice σ2.2.1.a σ2.2.1.len σ2.2.1.cap)) w4 = .ok () w14 ∧
                        optK x0 fun a12 =>
                          ∃ (w15 : World),
                          Sem.run Pr (Instr.storeAt 156 (.pointer (some (Addr.add a12 1))) (.slice σ2.2.2.1.a σ2.2.2.1.len σ2.2.2.1.cap)) w14 = .ok () w15 ∧
                          ∃ (s16 : SV) (w16 : World),
                          Sem.run Pr (Instr.buildSlice 156 0 #[]) w15 = .ok (.slice s16.a s16.len s16.cap) w16 ∧
                          ∃ (s17 : SV) (w17 : World),
                          Sem.run Pr (Builtin.append_ #[156, 156] 156 #[(.slice s16.a s16.len s16.cap), (.slice σ2.2.2.1.a σ2.2.2.1.len σ2.2.2.1.cap)]) w16 = .ok (.slice s17.a s17.len s17.cap) w17 ∧
                          optK x0 fun a13 =>
                            ∃ (w18 : World),
                            Sem.run Pr (Instr.storeAt 156 (.pointer (some (Addr.add a13 2))) (.slice s17.a s17.len s17.cap)) w17 = .ok () w18 ∧
                            optK x0 fun a14 =>
                              ∃ (w19 : World),
                              Sem.run Pr (Instr.storeAt 157 (.pointer (some (Addr.add a14 3))) (.slice none 0 0)) w18 = .ok () w19 ∧
                              optK x0 fun a15 =>
                                ∃ (w20 : World),
                                Sem.run Pr (Instr.storeAt 4 (.pointer (some (Addr.add a15 5))) (.bool false)) w19 = .ok () w20 ∧
                                optK x0 fun a16 =>
                                  ∃ (w21 : World),
                                  Sem.run Pr (Instr.storeAt 4 (.pointer (some (Addr.add a16 6))) (.bool false)) w20 = .ok () w21 ∧
                                  R (.int .i64 0) w21)) (0, SV.mk none 0 0, SV.mk none 0 0, ()) w2))
          (LoopT (σ := Int × SV × SV × Unit) (fun σ3 w22 K3 =>
              ∀ _ : Env,
              brc (decide (σ3.1 < ((σ1.2.1.len : Nat) : Int)))
                (∃ (S6 : World → Prop),
                  S6 (World.drew w22) ∧
                  optK x0 fun a17 =>
                    ∃ (s18 : SV),
                    AtS Pr S6 (loadVar 155 (Addr.add a17 0)) (.slice s18.a s18.len s18.cap) ∧
                    ((0 : Int) ≤ σ3.1 ∧ σ3.1 < ((σ1.2.1.len : Nat) : Int)) ∧
                    optK σ1.2.1.a fun a18 =>
                      ∃ (n9 : Int),
                      AtS Pr S6 (loadVar 3 (Addr.add (Addr.add a18 (Int.toNat σ3.1 * 2)) 1)) (.int .i64 n9) ∧
                      ((0 : Int) ≤ n9 ∧ n9 < ((s18.len : Nat) : Int)) ∧
                      optK s18.a fun a19 =>
                        ∃ (s19 : SV) (n10 : Int),
                        AtS Pr S6 (loadVar 169 (Addr.add a19 (Int.toNat n9 * 2))) (.agg #[(.slice s19.a s19.len s19.cap), (.int .i64 n10)]) ∧
                        ∃ (a20 : Addr) (w23 : World),
                        Sem.run Pr (Instr.alloc 169 true (.tuple #[])) (World.drew w22) = .ok (.pointer (some a20)) w23 ∧
                        ∃ (S7 : World → Prop),
                        (∀ w, S7 w → S6 w) ∧
                        S7 w23 ∧
                        ∃ (w24 : World),
                        Sem.run Pr (Instr.storeAt 169 (.pointer (some a20)) (.agg #[(.slice s19.a s19.len s19.cap), (.int .i64 n10)])) w23 = .ok () w24 ∧
                        ∃ (S8 : World → Prop),
                        S8 w24 ∧
                        ∃ (S9 : World → Prop),
                        S9 (World.drew w24) ∧
                        ∃ (n11 : Int),
                        AtS Pr S9 (loadVar 3 (Addr.add a20 1)) (.int .i64 n11) ∧
                        ∃ (n12 : Int) (s20 : SV),
                        AtS Pr S9 (loadVar 63 a1) (.agg #[(.int .i64 n12), (.slice s20.a s20.len s20.cap)]) ∧
                        ∃ (s21 : SV),
                        AtS Pr S9 (loadVar 26 (Addr.add a20 0)) (.slice s21.a s21.len s21.cap) ∧
                        ∃ (n13 : Int),
                        AtS Pr S9 (loadVar 3 (Addr.add a20 1)) (.int .i64 n13) ∧
                        Calls Pr 111 #[(.agg #[(.int .i64 n12), (.slice s20.a s20.len s20.cap)]), (.int .i64 σ3.1), (.int .i64 (IntKind.wrap .i64 (((s21.len : Nat) : Int) - n13)))] (World.drew w24) fun e3 w25 =>
                          ∃ (n14 : Int),
                          e3 = .returned (.int .i64 n14) ∧
                          ∃ (S10 : World → Prop),
                          (∀ w, S10 w → S9 w) ∧
                          S10 w25 ∧
                          ∃ (s22 : SV) (w26 : World),
                          Sem.run Pr (Instr.buildSlice 26 0 #[]) w25 = .ok (.slice s22.a s22.len s22.cap) w26 ∧
                          ∃ (s23 : SV),
                          At Pr w26 (loadVar 26 (Addr.add a20 0)) (.slice s23.a s23.len s23.cap) ∧
                          ((0 : Int) ≤ (IntKind.wrap .i64 (n11 + n14)) ∧ (IntKind.wrap .i64 (n11 + n14)) ≤ ((s23.cap : Nat) : Int)) ∧
                          ∃ (s24 : SV) (w27 : World),
                          Sem.run Pr (Builtin.append_ #[26, 26] 26 #[(.slice s22.a s22.len s22.cap), (.slice (cutAt s23.a 0 s23.cap 1) ((Int.toNat (IntKind.wrap .i64 (n11 + n14))) - 0) (s23.cap - 0))]) w26 = .ok (.slice s24.a s24.len s24.cap) w27 ∧
                          ∃ (s25 : SV) (w28 : World),
                          Sem.run Pr (Instr.buildSlice 155 1 #[(0, (.agg #[(.slice s24.a s24.len s24.cap), (.int .i64 (IntKind.wrap .i64 (n11 + n14)))]))]) w27 = .ok (.slice s25.a s25.len s25.cap) w28 ∧
                          ∃ (s26 : SV) (w29 : World),
                          Sem.run Pr (Builtin.append_ #[155, 155] 155 #[(.slice σ3.2.1.a σ3.2.1.len σ3.2.1.cap), (.slice s25.a s25.len s25.cap)]) w28 = .ok (.slice s26.a s26.len s26.cap) w29 ∧
                          ((0 : Int) ≤ σ3.1 ∧ σ3.1 < ((σ1.2.1.len : Nat) : Int)) ∧
                          optK σ1.2.1.a fun a21 =>
                            ∃ (str4 : ByteArray),
                            At Pr w29 (loadVar 9 (Addr.add (Addr.add a21 (Int.toNat σ3.1 * 2)) 0)) (.string str4) ∧
                            ∃ (s27 : SV) (w30 : World),
                            Sem.run Pr (Instr.buildSlice 156 1 #[(0, (.agg #[(.string str4), (.int .i64 σ3.1)]))]) w29 = .ok (.slice s27.a s27.len s27.cap) w30 ∧
                            ∃ (s28 : SV) (w31 : World),
                            Sem.run Pr (Builtin.append_ #[156, 156] 156 #[(.slice σ3.2.2.1.a σ3.2.2.1.len σ3.2.2.1.cap), (.slice s27.a s27.len s27.cap)]) w30 = .ok (.slice s28.a s28.len s28.cap) w31 ∧
                            K3 (IntKind.wrap .i64 (σ3.1 + 1), s26, s28, ()) w31)
                (optK x0 fun a22 =>
                    ∃ (w32 : World),
                    Sem.run Pr (Instr.storeAt 155 (.pointer (some (Addr.add a22 0))) (.slice σ3.2.1.a σ3.2.1.len σ3.2.1.cap)) w22 = .ok () w32 ∧
                    optK x0 fun a23 =>
                      ∃ (w33 : World),
                      Sem.run Pr (Instr.storeAt 156 (.pointer (some (Addr.add a23 1))) (.slice σ3.2.2.1.a σ3.2.2.1.len σ3.2.2.1.cap)) w32 = .ok () w33 ∧
                      ∃ (s29 : SV) (w34 : World),
                      Sem.run Pr (Instr.buildSlice 156 0 #[]) w33 = .ok (.slice s29.a s29.len s29.cap) w34 ∧
                      ∃ (s30 : SV) (w35 : World),
                      Sem.run Pr (Builtin.append_ #[156, 156] 156 #[(.slice s29.a s29.len s29.cap), (.slice σ3.2.2.1.a σ3.2.2.1.len σ3.2.2.1.cap)]) w34 = .ok (.slice s30.a s30.len s30.cap) w35 ∧
                      optK x0 fun a24 =>
                        ∃ (w36 : World),
                        Sem.run Pr (Instr.storeAt 156 (.pointer (some (Addr.add a24 2))) (.slice s30.a s30.len s30.cap)) w35 = .ok () w36 ∧
                        optK x0 fun a25 =>
                          ∃ (w37 : World),
                          Sem.run Pr (Instr.storeAt 157 (.pointer (some (Addr.add a25 3))) (.slice none 0 0)) w36 = .ok () w37 ∧
                          optK x0 fun a26 =>
                            ∃ (w38 : World),
                            Sem.run Pr (Instr.storeAt 4 (.pointer (some (Addr.add a26 5))) (.bool false)) w37 = .ok () w38 ∧
                            optK x0 fun a27 =>
                              ∃ (w39 : World),
                              Sem.run Pr (Instr.storeAt 4 (.pointer (some (Addr.add a27 6))) (.bool false)) w38 = .ok () w39 ∧
                              R (.int .i64 0) w39)) (0, SV.mk none 0 0, SV.mk none 0 0, ()) w2)) (0, s1, ()) w1

theorem call46 {x0 : Option Addr} {x1_Names : Int} {x1_Bytes : SV} {w0 : World} {R : Ending → World → Prop} (h : ir46 x0 x1_Names x1_Bytes w0 fun v w => R (.returned v) w) : Calls Pr 46 #[.pointer x0, .agg #[(.int .i64 x1_Names), (.slice x1_Bytes.a x1_Bytes.len x1_Bytes.cap)]] w0 R := by
  refine calls_of_vc (ann := [(3, [(6, .int .i64), (5, .slice)]), (9, [(9, .int .i64), (7, .slice), (8, .slice)])]) (E := []) (args := [.pointer x0, .agg #[(.int .i64 x1_Names), (.slice x1_Bytes.a x1_Bytes.len x1_Bytes.cap)]]) follows Try.func46 rfl (by kernel_rfl) ?_
  apply by_eq h
  kernel_rfl

/-- (*creel/creelref04.Disk).Doom -/
def ir59 (x0 : Option Addr) (x1 : Int) (w0 : World) (R : Value → World → Prop) : Prop :=
  brc (decide (x1 < (0 : Int)))
    (R (.int .i64 1) w0)
    (optK x0 fun a1 =>
        ∃ (w1 : World),
        Sem.run Pr (Instr.storeAt 4 (.pointer (some (Addr.add a1 6))) (.bool true)) w0 = .ok () w1 ∧
        optK x0 fun a2 =>
          ∃ (w2 : World),
          Sem.run Pr (Instr.storeAt 3 (.pointer (some (Addr.add a2 7))) (.int .i64 x1)) w1 = .ok () w2 ∧
          R (.int .i64 0) w2)

theorem call59 {x0 : Option Addr} {x1 : Int} {w0 : World} {R : Ending → World → Prop} (h : ir59 x0 x1 w0 fun v w => R (.returned v) w) : Calls Pr 59 #[.pointer x0, .int .i64 x1] w0 R := by
  refine calls_of_vc (ann := []) (E := []) (args := [.pointer x0, .int .i64 x1]) follows Try.func59 rfl (by kernel_rfl) ?_
  apply by_eq h
  kernel_rfl

/-- (*creel/creelref04.Disk).Read -/
def ir64 (x0 : Option Addr) (x1 : ByteArray) (w0 : World) (R : Value → World → Prop) : Prop :=
  Calls Pr 126 #[(.pointer x0)] w0 fun e1 w1 =>
    ∃ (b1 : Bool),
    e1 = .returned (.bool b1) ∧
    brc (b1)
      (R (.tuple #[(.slice none 0 0), (.int .i64 40)]) w1)
      (optK x0 fun a1 =>
          ∃ (s1 : SV),
          At Pr w1 (loadVar 156 (Addr.add a1 1)) (.slice s1.a s1.len s1.cap) ∧
          Calls Pr 105 #[(.slice s1.a s1.len s1.cap), (.string x1)] w1 fun e2 w2 =>
            ∃ (n1 : Int),
            e2 = .returned (.int .i64 n1) ∧
            brc (decide (n1 < (0 : Int)))
              (R (.tuple #[(.slice none 0 0), (.int .i64 2)]) w2)
              (∃ (s2 : SV) (w3 : World),
                Sem.run Pr (Instr.buildSlice 26 0 #[]) w2 = .ok (.slice s2.a s2.len s2.cap) w3 ∧
                optK x0 fun a2 =>
                  ∃ (s3 : SV),
                  At Pr w3 (loadVar 155 (Addr.add a2 0)) (.slice s3.a s3.len s3.cap) ∧
                  ((0 : Int) ≤ n1 ∧ n1 < ((s3.len : Nat) : Int)) ∧
                  optK s3.a fun a3 =>
                    ∃ (s4 : SV),
                    At Pr w3 (loadVar 26 (Addr.add (Addr.add a3 (Int.toNat n1 * 2)) 0)) (.slice s4.a s4.len s4.cap) ∧
                    ∃ (s5 : SV) (w4 : World),
                    Sem.run Pr (Builtin.append_ #[26, 26] 26 #[(.slice s2.a s2.len s2.cap), (.slice s4.a s4.len s4.cap)]) w3 = .ok (.slice s5.a s5.len s5.cap) w4 ∧
                    R (.tuple #[(.slice s5.a s5.len s5.cap), (.int .i64 0)]) w4))

theorem call64 {x0 : Option Addr} {x1 : ByteArray} {w0 : World} {R : Ending → World → Prop} (h : ir64 x0 x1 w0 fun v w => R (.returned v) w) : Calls Pr 64 #[.pointer x0, .string x1] w0 R := by
  refine calls_of_vc (ann := []) (E := []) (args := [.pointer x0, .string x1]) follows Try.func64 rfl (by kernel_rfl) ?_
  apply by_eq h
  kernel_rfl

/-- (*creel/creelref04.Disk).Create -/
def ir96 (x0 : Option Addr) (x1 : ByteArray) (w0 : World) (R : Value → World → Prop) : Prop :=
  Calls Pr 126 #[(.pointer x0)] w0 fun e1 w1 =>
    ∃ (b1 : Bool),
    e1 = .returned (.bool b1) ∧
    brc (b1)
      (R (.int .i64 40) w1)
      (Calls Pr 141 #[(.string x1)] w1 fun e2 w2 =>
          ∃ (b2 : Bool),
          e2 = .returned (.bool b2) ∧
          brc (!b2)
            (R (.int .i64 1) w2)
            (optK x0 fun a1 =>
                ∃ (s1 : SV),
                At Pr w2 (loadVar 156 (Addr.add a1 1)) (.slice s1.a s1.len s1.cap) ∧
                Calls Pr 105 #[(.slice s1.a s1.len s1.cap), (.string x1)] w2 fun e3 w3 =>
                  ∃ (n1 : Int),
                  e3 = .returned (.int .i64 n1) ∧
                  brc (decide (n1 ≥ (0 : Int)))
                    (R (.int .i64 4) w3)
                    (∃ (s2 : SV) (w4 : World),
                      Sem.run Pr (Instr.buildSlice 155 0 #[]) w3 = .ok (.slice s2.a s2.len s2.cap) w4 ∧
                      optK x0 fun a2 =>
                        ∃ (s3 : SV),
                        At Pr w4 (loadVar 155 (Addr.add a2 0)) (.slice s3.a s3.len s3.cap) ∧
                        ∃ (s4 : SV) (w5 : World),
                        Sem.run Pr (Builtin.append_ #[155, 155] 155 #[(.slice s2.a s2.len s2.cap), (.slice s3.a s3.len s3.cap)]) w4 = .ok (.slice s4.a s4.len s4.cap) w5 ∧
                        ∃ (s5 : SV) (w6 : World),
                        Sem.run Pr (Instr.buildSlice 155 1 #[(0, (.agg #[(.slice none 0 0), (.int .i64 0)]))]) w5 = .ok (.slice s5.a s5.len s5.cap) w6 ∧
                        ∃ (s6 : SV) (w7 : World),
                        Sem.run Pr (Builtin.append_ #[155, 155] 155 #[(.slice s4.a s4.len s4.cap), (.slice s5.a s5.len s5.cap)]) w6 = .ok (.slice s6.a s6.len s6.cap) w7 ∧
                        optK x0 fun a3 =>
                          ∃ (w8 : World),
                          Sem.run Pr (Instr.storeAt 155 (.pointer (some (Addr.add a3 0))) (.slice s6.a s6.len s6.cap)) w7 = .ok () w8 ∧
                          optK x0 fun a4 =>
                            ∃ (s7 : SV),
                            At Pr w8 (loadVar 155 (Addr.add a4 0)) (.slice s7.a s7.len s7.cap) ∧
                            Calls Pr 142 #[(.pointer x0), (.agg #[(.string ByteArray.empty), (.string x1), (.int .i64 (IntKind.wrap .i64 (((s7.len : Nat) : Int) - 1)))])] w8 fun e4 w9 =>
                              e4 = .returned (.tuple #[]) ∧
                              R (.int .i64 0) w9)))

theorem call96 {x0 : Option Addr} {x1 : ByteArray} {w0 : World} {R : Ending → World → Prop} (h : ir96 x0 x1 w0 fun v w => R (.returned v) w) : Calls Pr 96 #[.pointer x0, .string x1] w0 R := by
  refine calls_of_vc (ann := []) (E := []) (args := [.pointer x0, .string x1]) follows Try.func96 rfl (by kernel_rfl) ?_
  apply by_eq h
  kernel_rfl

/-- (*creel/creelref04.Disk).Sync -/
def ir97 (x0 : Option Addr) (x1 : ByteArray) (w0 : World) (R : Value → World → Prop) : Prop :=
  Calls Pr 126 #[(.pointer x0)] w0 fun e1 w1 =>
    ∃ (b1 : Bool),
    e1 = .returned (.bool b1) ∧
    brc (b1)
      (R (.int .i64 40) w1)
      (optK x0 fun a1 =>
          ∃ (s1 : SV),
          At Pr w1 (loadVar 156 (Addr.add a1 1)) (.slice s1.a s1.len s1.cap) ∧
          Calls Pr 105 #[(.slice s1.a s1.len s1.cap), (.string x1)] w1 fun e2 w2 =>
            ∃ (n1 : Int),
            e2 = .returned (.int .i64 n1) ∧
            brc (decide (n1 < (0 : Int)))
              (R (.int .i64 2) w2)
              (∃ (S1 : World → Prop),
                S1 (World.drew w2) ∧
                optK x0 fun a2 =>
                  ∃ (s2 : SV),
                  AtS Pr S1 (loadVar 155 (Addr.add a2 0)) (.slice s2.a s2.len s2.cap) ∧
                  optK x0 fun a3 =>
                    ∃ (s3 : SV),
                    AtS Pr S1 (loadVar 155 (Addr.add a3 0)) (.slice s3.a s3.len s3.cap) ∧
                    ((0 : Int) ≤ n1 ∧ n1 < ((s3.len : Nat) : Int)) ∧
                    optK s3.a fun a4 =>
                      ∃ (s4 : SV),
                      AtS Pr S1 (loadVar 26 (Addr.add (Addr.add a4 (Int.toNat n1 * 2)) 0)) (.slice s4.a s4.len s4.cap) ∧
                      ((0 : Int) ≤ n1 ∧ n1 < ((s2.len : Nat) : Int)) ∧
                      optK s2.a fun a5 =>
                        ∃ (w3 : World),
                        Sem.run Pr (Instr.storeAt 3 (.pointer (some (Addr.add (Addr.add a5 (Int.toNat n1 * 2)) 1))) (.int .i64 ((s4.len : Nat) : Int))) (World.drew w2) = .ok () w3 ∧
                        ∃ (S2 : World → Prop),
                        S2 w3 ∧
                        R (.int .i64 0) w3))

theorem call97 {x0 : Option Addr} {x1 : ByteArray} {w0 : World} {R : Ending → World → Prop} (h : ir97 x0 x1 w0 fun v w => R (.returned v) w) : Calls Pr 97 #[.pointer x0, .string x1] w0 R := by
  refine calls_of_vc (ann := []) (E := []) (args := [.pointer x0, .string x1]) follows Try.func97 rfl (by kernel_rfl) ?_
  apply by_eq h
  kernel_rfl

/-- (*creel/creelref04.Disk).Rename -/
def ir98 (x0 : Option Addr) (x1 : ByteArray) (x2 : ByteArray) (w0 : World) (R : Value → World → Prop) : Prop :=
  Calls Pr 126 #[(.pointer x0)] w0 fun e1 w1 =>
    ∃ (b1 : Bool),
    e1 = .returned (.bool b1) ∧
    brc (b1)
      (R (.int .i64 40) w1)
      (optK x0 fun a1 =>
          ∃ (s1 : SV),
          At Pr w1 (loadVar 156 (Addr.add a1 1)) (.slice s1.a s1.len s1.cap) ∧
          Calls Pr 105 #[(.slice s1.a s1.len s1.cap), (.string x1)] w1 fun e2 w2 =>
            ∃ (n1 : Int),
            e2 = .returned (.int .i64 n1) ∧
            brc (decide (n1 < (0 : Int)))
              (R (.int .i64 2) w2)
              (Calls Pr 141 #[(.string x2)] w2 fun e3 w3 =>
                  ∃ (b2 : Bool),
                  e3 = .returned (.bool b2) ∧
                  brc (!b2)
                    (R (.int .i64 1) w3)
                    (Calls Pr 142 #[(.pointer x0), (.agg #[(.string x1), (.string x2), (.int .i64 0)])] w3 fun e4 w4 =>
                        e4 = .returned (.tuple #[]) ∧
                        R (.int .i64 0) w4)))

theorem call98 {x0 : Option Addr} {x1 : ByteArray} {x2 : ByteArray} {w0 : World} {R : Ending → World → Prop} (h : ir98 x0 x1 x2 w0 fun v w => R (.returned v) w) : Calls Pr 98 #[.pointer x0, .string x1, .string x2] w0 R := by
  refine calls_of_vc (ann := []) (E := []) (args := [.pointer x0, .string x1, .string x2]) follows Try.func98 rfl (by kernel_rfl) ?_
  apply by_eq h
  kernel_rfl

/-- (*creel/creelref04.Disk).Remove -/
def ir99 (x0 : Option Addr) (x1 : ByteArray) (w0 : World) (R : Value → World → Prop) : Prop :=
  Calls Pr 126 #[(.pointer x0)] w0 fun e1 w1 =>
    ∃ (b1 : Bool),
    e1 = .returned (.bool b1) ∧
    brc (b1)
      (R (.int .i64 40) w1)
      (optK x0 fun a1 =>
          ∃ (s1 : SV),
          At Pr w1 (loadVar 156 (Addr.add a1 1)) (.slice s1.a s1.len s1.cap) ∧
          Calls Pr 105 #[(.slice s1.a s1.len s1.cap), (.string x1)] w1 fun e2 w2 =>
            ∃ (n1 : Int),
            e2 = .returned (.int .i64 n1) ∧
            brc (decide (n1 < (0 : Int)))
              (R (.int .i64 2) w2)
              (Calls Pr 142 #[(.pointer x0), (.agg #[(.string x1), (.string ByteArray.empty), (.int .i64 0)])] w2 fun e3 w3 =>
                  e3 = .returned (.tuple #[]) ∧
                  R (.int .i64 0) w3))

theorem call99 {x0 : Option Addr} {x1 : ByteArray} {w0 : World} {R : Ending → World → Prop} (h : ir99 x0 x1 w0 fun v w => R (.returned v) w) : Calls Pr 99 #[.pointer x0, .string x1] w0 R := by
  refine calls_of_vc (ann := []) (E := []) (args := [.pointer x0, .string x1]) follows Try.func99 rfl (by kernel_rfl) ?_
  apply by_eq h
  kernel_rfl

/-- (*creel/creelref04.Disk).SyncNames -/
def ir100 (x0 : Option Addr) (w0 : World) (R : Value → World → Prop) : Prop :=
  Calls Pr 126 #[(.pointer x0)] w0 fun e1 w1 =>
    ∃ (b1 : Bool),
    e1 = .returned (.bool b1) ∧
    brc (b1)
      (R (.int .i64 40) w1)
      (∃ (s1 : SV) (w2 : World),
        Sem.run Pr (Instr.buildSlice 156 0 #[]) w1 = .ok (.slice s1.a s1.len s1.cap) w2 ∧
        optK x0 fun a1 =>
          ∃ (s2 : SV),
          At Pr w2 (loadVar 156 (Addr.add a1 1)) (.slice s2.a s2.len s2.cap) ∧
          ∃ (s3 : SV) (w3 : World),
          Sem.run Pr (Builtin.append_ #[156, 156] 156 #[(.slice s1.a s1.len s1.cap), (.slice s2.a s2.len s2.cap)]) w2 = .ok (.slice s3.a s3.len s3.cap) w3 ∧
          optK x0 fun a2 =>
            ∃ (w4 : World),
            Sem.run Pr (Instr.storeAt 156 (.pointer (some (Addr.add a2 2))) (.slice s3.a s3.len s3.cap)) w3 = .ok () w4 ∧
            optK x0 fun a3 =>
              ∃ (w5 : World),
              Sem.run Pr (Instr.storeAt 157 (.pointer (some (Addr.add a3 3))) (.slice none 0 0)) w4 = .ok () w5 ∧
              R (.int .i64 0) w5)

theorem call100 {x0 : Option Addr} {w0 : World} {R : Ending → World → Prop} (h : ir100 x0 w0 fun v w => R (.returned v) w) : Calls Pr 100 #[.pointer x0] w0 R := by
  refine calls_of_vc (ann := []) (E := []) (args := [.pointer x0]) follows Try.func100 rfl (by kernel_rfl) ?_
  apply by_eq h
  kernel_rfl

/-- (*creel/creelref04.Disk).Names -/
def ir101 (x0 : Option Addr) (w0 : World) (R : Value → World → Prop) : Prop :=
  Calls Pr 126 #[(.pointer x0)] w0 fun e1 w1 =>
    ∃ (b1 : Bool),
    e1 = .returned (.bool b1) ∧
    brc (b1)
      (R (.tuple #[(.slice none 0 0), (.int .i64 40)]) w1)
      (LoopT (σ := Int × SV × Unit) (fun σ1 w2 K1 =>
          ∀ _ : Env,
          optK x0 fun a1 =>
            ∃ (s1 : SV),
            At Pr w2 (loadVar 156 (Addr.add a1 1)) (.slice s1.a s1.len s1.cap) ∧
            brc (decide (σ1.1 < ((s1.len : Nat) : Int)))
              (optK x0 fun a2 =>
                  ∃ (s2 : SV),
                  At Pr w2 (loadVar 156 (Addr.add a2 1)) (.slice s2.a s2.len s2.cap) ∧
                  ((0 : Int) ≤ σ1.1 ∧ σ1.1 < ((s2.len : Nat) : Int)) ∧
                  optK s2.a fun a3 =>
                    ∃ (str1 : ByteArray),
                    At Pr w2 (loadVar 9 (Addr.add (Addr.add a3 (Int.toNat σ1.1 * 2)) 0)) (.string str1) ∧
                    ∃ (s3 : SV) (w3 : World),
                    Sem.run Pr (Instr.buildSlice 78 1 #[(0, (.string str1))]) w2 = .ok (.slice s3.a s3.len s3.cap) w3 ∧
                    ∃ (s4 : SV) (w4 : World),
                    Sem.run Pr (Builtin.append_ #[78, 78] 78 #[(.slice σ1.2.1.a σ1.2.1.len σ1.2.1.cap), (.slice s3.a s3.len s3.cap)]) w3 = .ok (.slice s4.a s4.len s4.cap) w4 ∧
                    K1 (IntKind.wrap .i64 (σ1.1 + 1), s4, ()) w4)
              (R (.tuple #[(.slice σ1.2.1.a σ1.2.1.len σ1.2.1.cap), (.int .i64 0)]) w2)) (0, SV.mk none 0 0, ()) w1)

theorem call101 {x0 : Option Addr} {w0 : World} {R : Ending → World → Prop} (h : ir101 x0 w0 fun v w => R (.returned v) w) : Calls Pr 101 #[.pointer x0] w0 R := by
  refine calls_of_vc (ann := [(5, [(5, .int .i64), (4, .slice)])]) (E := []) (args := [.pointer x0]) follows Try.func101 rfl (by kernel_rfl) ?_
  apply by_eq h
  kernel_rfl

/-- (*creel/creelref04.Disk).Grow -/
def ir102 (x0 : Option Addr) (x1 : Int) (w0 : World) (R : Value → World → Prop) : Prop :=
  brc (decide (x1 < (0 : Int)))
    (R (.int .i64 1) w0)
    (optK x0 fun a1 =>
        ∃ (w1 : World),
        Sem.run Pr (Instr.storeAt 3 (.pointer (some (Addr.add a1 4))) (.int .i64 x1)) w0 = .ok () w1 ∧
        R (.int .i64 0) w1)

theorem call102 {x0 : Option Addr} {x1 : Int} {w0 : World} {R : Ending → World → Prop} (h : ir102 x0 x1 w0 fun v w => R (.returned v) w) : Calls Pr 102 #[.pointer x0, .int .i64 x1] w0 R := by
  refine calls_of_vc (ann := []) (E := []) (args := [.pointer x0, .int .i64 x1]) follows Try.func102 rfl (by kernel_rfl) ?_
  apply by_eq h
  kernel_rfl

/-- (*creel/creelref04.Disk).Append -/
def ir103 (x0 : Option Addr) (x1 : ByteArray) (x2 : SV) (w0 : World) (R : Value → World → Prop) : Prop :=
  Calls Pr 126 #[(.pointer x0)] w0 fun e1 w1 =>
    ∃ (b1 : Bool),
    e1 = .returned (.bool b1) ∧
    brc (b1)
      (R (.int .i64 40) w1)
      (optK x0 fun a1 =>
          ∃ (s1 : SV),
          At Pr w1 (loadVar 156 (Addr.add a1 1)) (.slice s1.a s1.len s1.cap) ∧
          Calls Pr 105 #[(.slice s1.a s1.len s1.cap), (.string x1)] w1 fun e2 w2 =>
            ∃ (n1 : Int),
            e2 = .returned (.int .i64 n1) ∧
            brc (decide (n1 < (0 : Int)))
              (R (.int .i64 2) w2)
              (∃ (S1 : World → Prop),
                S1 (World.drew w2) ∧
                optK x0 fun a2 =>
                  ∃ (n2 : Int),
                  AtS Pr S1 (loadVar 3 (Addr.add a2 4)) (.int .i64 n2) ∧
                  Calls Pr 41 #[(.pointer x0)] (World.drew w2) fun e3 w3 =>
                    ∃ (n3 : Int),
                    e3 = .returned (.int .i64 n3) ∧
                    ∃ (S2 : World → Prop),
                    (∀ w, S2 w → S1 w) ∧
                    S2 w3 ∧
                    brc (decide ((IntKind.wrap .i64 (n3 + ((x2.len : Nat) : Int))) > n2))
                      (R (.int .i64 41) w3)
                      (optK x0 fun a3 =>
                          ∃ (s2 : SV),
                          At Pr w3 (loadVar 155 (Addr.add a3 0)) (.slice s2.a s2.len s2.cap) ∧
                          ((0 : Int) ≤ n1 ∧ n1 < ((s2.len : Nat) : Int)) ∧
                          optK s2.a fun a4 =>
                            ∃ (s3 : SV) (n4 : Int),
                            At Pr w3 (loadVar 169 (Addr.add a4 (Int.toNat n1 * 2))) (.agg #[(.slice s3.a s3.len s3.cap), (.int .i64 n4)]) ∧
                            ∃ (a5 : Addr) (w4 : World),
                            Sem.run Pr (Instr.alloc 169 true (.tuple #[])) w3 = .ok (.pointer (some a5)) w4 ∧
                            ∃ (w5 : World),
                            Sem.run Pr (Instr.storeAt 169 (.pointer (some a5)) (.agg #[(.slice s3.a s3.len s3.cap), (.int .i64 n4)])) w4 = .ok () w5 ∧
                            ∃ (s4 : SV) (w6 : World),
                            Sem.run Pr (Instr.buildSlice 26 0 #[]) w5 = .ok (.slice s4.a s4.len s4.cap) w6 ∧
                            ∃ (s5 : SV),
                            At Pr w6 (loadVar 26 (Addr.add a5 0)) (.slice s5.a s5.len s5.cap) ∧
                            ∃ (s6 : SV) (w7 : World),
                            Sem.run Pr (Builtin.append_ #[26, 26] 26 #[(.slice s4.a s4.len s4.cap), (.slice s5.a s5.len s5.cap)]) w6 = .ok (.slice s6.a s6.len s6.cap) w7 ∧
                            ∃ (s7 : SV) (w8 : World),
                            Sem.run Pr (Builtin.append_ #[26, 26] 26 #[(.slice s6.a s6.len s6.cap), (.slice x2.a x2.len x2.cap)]) w7 = .ok (.slice s7.a s7.len s7.cap) w8 ∧
                            ∃ (w9 : World),
                            Sem.run Pr (Instr.storeAt 26 (.pointer (some (Addr.add a5 0))) (.slice s7.a s7.len s7.cap)) w8 = .ok () w9 ∧
                            ∃ (S3 : World → Prop),
                            S3 (World.drew w9) ∧
                            optK x0 fun a6 =>
                              ∃ (s8 : SV),
                              AtS Pr S3 (loadVar 155 (Addr.add a6 0)) (.slice s8.a s8.len s8.cap) ∧
                              ∃ (s9 : SV) (n5 : Int),
                              AtS Pr S3 (loadVar 169 a5) (.agg #[(.slice s9.a s9.len s9.cap), (.int .i64 n5)]) ∧
                              ((0 : Int) ≤ n1 ∧ n1 < ((s8.len : Nat) : Int)) ∧
                              optK s8.a fun a7 =>
                                ∃ (w10 : World),
                                Sem.run Pr (Instr.storeAt 169 (.pointer (some (Addr.add a7 (Int.toNat n1 * 2)))) (.agg #[(.slice s9.a s9.len s9.cap), (.int .i64 n5)])) (World.drew w9) = .ok () w10 ∧
                                ∃ (S4 : World → Prop),
                                S4 w10 ∧
                                R (.int .i64 0) w10)))

theorem call103 {x0 : Option Addr} {x1 : ByteArray} {x2 : SV} {w0 : World} {R : Ending → World → Prop} (h : ir103 x0 x1 x2 w0 fun v w => R (.returned v) w) : Calls Pr 103 #[.pointer x0, .string x1, .slice x2.a x2.len x2.cap] w0 R := by
  refine calls_of_vc (ann := []) (E := []) (args := [.pointer x0, .string x1, .slice x2.a x2.len x2.cap]) follows Try.func103 rfl (by kernel_rfl) ?_
  apply by_eq h
  kernel_rfl

/-- creel/creelref04.change -/
def ir104 (x0 : SV) (x1_From : ByteArray) (x1_To : ByteArray) (x1_File : Int) (w0 : World) (R : Value → World → Prop) : Prop :=
  ∃ (a1 : Addr) (w1 : World),
  Sem.run Pr (Instr.box 166 (.agg #[(.string x1_From), (.string x1_To), (.int .i64 x1_File)])) w0 = .ok (.pointer (some a1)) w1 ∧
  ∃ (str1 : ByteArray),
  At Pr w1 (loadVar 9 (Addr.add a1 0)) (.string str1) ∧
  brc ((ByteArray.toList str1 == ByteArray.toList (⟨#[]⟩ : ByteArray)))
    (∃ (str2 : ByteArray),
      At Pr w1 (loadVar 9 (Addr.add a1 1)) (.string str2) ∧
      ∃ (n1 : Int),
      At Pr w1 (loadVar 3 (Addr.add a1 2)) (.int .i64 n1) ∧
      Calls Pr 143 #[(.slice x0.a x0.len x0.cap), (.string str2), (.int .i64 n1)] w1 fun e1 w2 =>
        ∃ (s1 : SV),
        e1 = .returned (.slice s1.a s1.len s1.cap) ∧
        R (.slice s1.a s1.len s1.cap) w2)
    (∃ (str3 : ByteArray),
      At Pr w1 (loadVar 9 (Addr.add a1 0)) (.string str3) ∧
      Calls Pr 105 #[(.slice x0.a x0.len x0.cap), (.string str3)] w1 fun e2 w3 =>
        ∃ (n2 : Int),
        e2 = .returned (.int .i64 n2) ∧
        ∃ (str4 : ByteArray),
        At Pr w3 (loadVar 9 (Addr.add a1 0)) (.string str4) ∧
        Calls Pr 144 #[(.slice x0.a x0.len x0.cap), (.string str4)] w3 fun e3 w4 =>
          ∃ (s2 : SV),
          e3 = .returned (.slice s2.a s2.len s2.cap) ∧
          ∃ (str5 : ByteArray),
          At Pr w4 (loadVar 9 (Addr.add a1 1)) (.string str5) ∧
          brc ((ByteArray.toList str5 == ByteArray.toList (⟨#[]⟩ : ByteArray)))
            (R (.slice s2.a s2.len s2.cap) w4)
            (∃ (str6 : ByteArray),
              At Pr w4 (loadVar 9 (Addr.add a1 1)) (.string str6) ∧
              Calls Pr 143 #[(.slice s2.a s2.len s2.cap), (.string str6), (.int .i64 n2)] w4 fun e4 w5 =>
                ∃ (s3 : SV),
                e4 = .returned (.slice s3.a s3.len s3.cap) ∧
                R (.slice s3.a s3.len s3.cap) w5))

theorem call104 {x0 : SV} {x1_From : ByteArray} {x1_To : ByteArray} {x1_File : Int} {w0 : World} {R : Ending → World → Prop} (h : ir104 x0 x1_From x1_To x1_File w0 fun v w => R (.returned v) w) : Calls Pr 104 #[.slice x0.a x0.len x0.cap, .agg #[(.string x1_From), (.string x1_To), (.int .i64 x1_File)]] w0 R := by
  refine calls_of_vc (ann := []) (E := []) (args := [.slice x0.a x0.len x0.cap, .agg #[(.string x1_From), (.string x1_To), (.int .i64 x1_File)]]) follows Try.func104 rfl (by kernel_rfl) ?_
  apply by_eq h
  kernel_rfl

/-- creel/creelref04.find -/
def ir105 (x0 : SV) (x1 : ByteArray) (w0 : World) (R : Value → World → Prop) : Prop :=
  LoopT (σ := Int × Unit) (fun σ1 w1 K1 =>
    ∀ _ : Env,
    brc (decide (σ1.1 < ((x0.len : Nat) : Int)))
      (((0 : Int) ≤ σ1.1 ∧ σ1.1 < ((x0.len : Nat) : Int)) ∧
        optK x0.a fun a1 =>
          ∃ (str1 : ByteArray),
          At Pr w1 (loadVar 9 (Addr.add (Addr.add a1 (Int.toNat σ1.1 * 2)) 0)) (.string str1) ∧
          brc ((ByteArray.toList str1 == ByteArray.toList x1))
            (((0 : Int) ≤ σ1.1 ∧ σ1.1 < ((x0.len : Nat) : Int)) ∧
              optK x0.a fun a2 =>
                ∃ (n1 : Int),
                At Pr w1 (loadVar 3 (Addr.add (Addr.add a2 (Int.toNat σ1.1 * 2)) 1)) (.int .i64 n1) ∧
                R (.int .i64 n1) w1)
            (K1 (IntKind.wrap .i64 (σ1.1 + 1), ()) w1))
      (R (.int .i64 (-1)) w1)) (0, ()) w0

theorem call105 {x0 : SV} {x1 : ByteArray} {w0 : World} {R : Ending → World → Prop} (h : ir105 x0 x1 w0 fun v w => R (.returned v) w) : Calls Pr 105 #[.slice x0.a x0.len x0.cap, .string x1] w0 R := by
  refine calls_of_vc (ann := [(2, [(5, .int .i64)])]) (E := []) (args := [.slice x0.a x0.len x0.cap, .string x1]) follows Try.func105 rfl (by kernel_rfl) ?_
  apply by_eq h
  kernel_rfl

/-- creel/creelref04.left -/
def ir111 (x0_Names : Int) (x0_Bytes : SV) (x1 : Int) (x2 : Int) (w0 : World) (R : Value → World → Prop) : Prop :=
  ∃ (a1 : Addr) (w1 : World),
  Sem.run Pr (Instr.box 63 (.agg #[(.int .i64 x0_Names), (.slice x0_Bytes.a x0_Bytes.len x0_Bytes.cap)])) w0 = .ok (.pointer (some a1)) w1 ∧
  ∃ (s1 : SV),
  At Pr w1 (loadVar 61 (Addr.add a1 1)) (.slice s1.a s1.len s1.cap) ∧
  brc (((s1.len : Nat) : Int) == (0 : Int))
    (R (.int .i64 0) w1)
    (∃ (S1 : World → Prop),
      S1 (World.drew w1) ∧
      ∃ (s2 : SV),
      AtS Pr S1 (loadVar 61 (Addr.add a1 1)) (.slice s2.a s2.len s2.cap) ∧
      ∃ (s3 : SV),
      AtS Pr S1 (loadVar 61 (Addr.add a1 1)) (.slice s3.a s3.len s3.cap) ∧
      ((s3.len : Nat) : Int) ≠ 0 ∧
      ((0 : Int) ≤ (Int.tmod x1 ((s3.len : Nat) : Int)) ∧ (Int.tmod x1 ((s3.len : Nat) : Int)) < ((s2.len : Nat) : Int)) ∧
      optK s2.a fun a2 =>
        ∃ (n1 : Int),
        AtS Pr S1 (loadVar 3 (Addr.add a2 (Int.toNat (Int.tmod x1 ((s3.len : Nat) : Int)) * 1))) (.int .i64 n1) ∧
        R (.int .i64 (if x2 < (if 0 > n1 then 0 else n1) then x2 else (if 0 > n1 then 0 else n1))) (World.drew w1))

theorem call111 {x0_Names : Int} {x0_Bytes : SV} {x1 : Int} {x2 : Int} {w0 : World} {R : Ending → World → Prop} (h : ir111 x0_Names x0_Bytes x1 x2 w0 fun v w => R (.returned v) w) : Calls Pr 111 #[.agg #[(.int .i64 x0_Names), (.slice x0_Bytes.a x0_Bytes.len x0_Bytes.cap)], .int .i64 x1, .int .i64 x2] w0 R := by
  refine calls_of_vc (ann := []) (E := []) (args := [.agg #[(.int .i64 x0_Names), (.slice x0_Bytes.a x0_Bytes.len x0_Bytes.cap)], .int .i64 x1, .int .i64 x2]) follows Try.func111 rfl (by kernel_rfl) ?_
  apply by_eq h
  kernel_rfl

/-- (*creel/creelref04.Disk).down -/
def ir126 (x0 : Option Addr) (w0 : World) (R : Value → World → Prop) : Prop :=
  optK x0 fun a1 =>
    ∃ (b1 : Bool),
    At Pr w0 (loadVar 4 (Addr.add a1 5)) (.bool b1) ∧
    brc (!b1)
      (optK x0 fun a2 =>
          ∃ (b2 : Bool),
          At Pr w0 (loadVar 4 (Addr.add a2 6)) (.bool b2) ∧
          brc (b2)
            (optK x0 fun a3 =>
                ∃ (n1 : Int),
                At Pr w0 (loadVar 3 (Addr.add a3 7)) (.int .i64 n1) ∧
                optK x0 fun a4 =>
                  ∃ (w1 : World),
                  Sem.run Pr (Instr.storeAt 4 (.pointer (some (Addr.add a4 5))) (.bool (n1 == (0 : Int)))) w0 = .ok () w1 ∧
                  optK x0 fun a5 =>
                    ∃ (n2 : Int),
                    At Pr w1 (loadVar 3 (Addr.add a5 7)) (.int .i64 n2) ∧
                    optK x0 fun a6 =>
                      ∃ (w2 : World),
                      Sem.run Pr (Instr.storeAt 3 (.pointer (some (Addr.add a6 7))) (.int .i64 (IntKind.wrap .i64 (n2 - 1)))) w1 = .ok () w2 ∧
                      optK x0 fun a7 =>
                        ∃ (b3 : Bool),
                        At Pr w2 (loadVar 4 (Addr.add a7 5)) (.bool b3) ∧
                        R (.bool b3) w2)
            (optK x0 fun a8 =>
                ∃ (b4 : Bool),
                At Pr w0 (loadVar 4 (Addr.add a8 5)) (.bool b4) ∧
                R (.bool b4) w0))
      (optK x0 fun a9 =>
          ∃ (b5 : Bool),
          At Pr w0 (loadVar 4 (Addr.add a9 5)) (.bool b5) ∧
          R (.bool b5) w0)

theorem call126 {x0 : Option Addr} {w0 : World} {R : Ending → World → Prop} (h : ir126 x0 w0 fun v w => R (.returned v) w) : Calls Pr 126 #[.pointer x0] w0 R := by
  refine calls_of_vc (ann := []) (E := []) (args := [.pointer x0]) follows Try.func126 rfl (by kernel_rfl) ?_
  apply by_eq h
  kernel_rfl

/-- creel/creelref04.right -/
def ir141 (x0 : ByteArray) (w0 : World) (R : Value → World → Prop) : Prop :=
  brc (decide (((ByteArray.size x0 : Nat) : Int) ≥ (1 : Int)))
    (R (.bool (decide (((ByteArray.size x0 : Nat) : Int) ≤ (32 : Int)))) w0)
    (R (.bool false) w0)

theorem call141 {x0 : ByteArray} {w0 : World} {R : Ending → World → Prop} (h : ir141 x0 w0 fun v w => R (.returned v) w) : Calls Pr 141 #[.string x0] w0 R := by
  refine calls_of_vc (ann := []) (E := []) (args := [.string x0]) follows Try.func141 rfl (by kernel_rfl) ?_
  apply by_eq h
  kernel_rfl

/-- (*creel/creelref04.Disk).does -/
def ir142 (x0 : Option Addr) (x1_From : ByteArray) (x1_To : ByteArray) (x1_File : Int) (w0 : World) (R : Value → World → Prop) : Prop :=
  ∃ (a1 : Addr) (w1 : World),
  Sem.run Pr (Instr.box 166 (.agg #[(.string x1_From), (.string x1_To), (.int .i64 x1_File)])) w0 = .ok (.pointer (some a1)) w1 ∧
  ∃ (S1 : World → Prop),
  S1 (World.drew w1) ∧
  optK x0 fun a2 =>
    ∃ (s1 : SV),
    AtS Pr S1 (loadVar 156 (Addr.add a2 1)) (.slice s1.a s1.len s1.cap) ∧
    ∃ (str1 : ByteArray) (str2 : ByteArray) (n1 : Int),
    AtS Pr S1 (loadVar 166 a1) (.agg #[(.string str1), (.string str2), (.int .i64 n1)]) ∧
    Calls Pr 104 #[(.slice s1.a s1.len s1.cap), (.agg #[(.string str1), (.string str2), (.int .i64 n1)])] (World.drew w1) fun e1 w2 =>
      ∃ (s2 : SV),
      e1 = .returned (.slice s2.a s2.len s2.cap) ∧
      ∃ (S2 : World → Prop),
      S2 w2 ∧
      optK x0 fun a3 =>
        ∃ (w3 : World),
        Sem.run Pr (Instr.storeAt 156 (.pointer (some (Addr.add a3 1))) (.slice s2.a s2.len s2.cap)) w2 = .ok () w3 ∧
        ∃ (S3 : World → Prop),
        S3 w3 ∧
        ∃ (S4 : World → Prop),
        S4 (World.drew w3) ∧
        optK x0 fun a4 =>
          ∃ (s3 : SV),
          AtS Pr S4 (loadVar 157 (Addr.add a4 3)) (.slice s3.a s3.len s3.cap) ∧
          ∃ (str3 : ByteArray) (str4 : ByteArray) (n2 : Int),
          AtS Pr S4 (loadVar 166 a1) (.agg #[(.string str3), (.string str4), (.int .i64 n2)]) ∧
          (∃ (s4 : SV) (w4 : World),
          Sem.run Pr (Instr.buildSlice 157 0 #[]) (World.drew w3) = .ok (.slice s4.a s4.len s4.cap) w4 ∧
          ∃ (S5 : World → Prop),
          (∀ w, S5 w → S4 w) ∧
          S5 w4 ∧
          (∃ (s5 : SV) (w5 : World),
          Sem.run Pr (Builtin.append_ #[157, 157] 157 #[(.slice s4.a s4.len s4.cap), (.slice s3.a s3.len s3.cap)]) w4 = .ok (.slice s5.a s5.len s5.cap) w5 ∧
          ∃ (S6 : World → Prop),
          (∀ w, S6 w → S5 w) ∧
          S6 w5 ∧
          ∃ (s6 : SV) (w6 : World),
          Sem.run Pr (Instr.buildSlice 157 1 #[(0, (.agg #[(.string str3), (.string str4), (.int .i64 n2)]))]) w5 = .ok (.slice s6.a s6.len s6.cap) w6 ∧
          ∃ (S7 : World → Prop),
          (∀ w, S7 w → S6 w) ∧
          S7 w6 ∧
          ∃ (s7 : SV) (w7 : World),
          Sem.run Pr (Builtin.append_ #[157, 157] 157 #[(.slice s5.a s5.len s5.cap), (.slice s6.a s6.len s6.cap)]) w6 = .ok (.slice s7.a s7.len s7.cap) w7 ∧
          ∃ (S8 : World → Prop),
          (∀ w, S8 w → S7 w) ∧
          S8 w7 ∧
          optK x0 fun a5 =>
            ∃ (w8 : World),
            Sem.run Pr (Instr.storeAt 157 (.pointer (some (Addr.add a5 3))) (.slice s7.a s7.len s7.cap)) w7 = .ok () w8 ∧
            ∃ (S9 : World → Prop),
            S9 w8 ∧
            R (.tuple #[]) w8) ∧
          ∃ (s8 : SV) (w9 : World),
          Sem.run Pr (Instr.buildSlice 157 1 #[(0, (.agg #[(.string str3), (.string str4), (.int .i64 n2)]))]) w4 = .ok (.slice s8.a s8.len s8.cap) w9 ∧
          ∃ (S10 : World → Prop),
          (∀ w, S10 w → S5 w) ∧
          S10 w9 ∧
          ∃ (s9 : SV) (w10 : World),
          Sem.run Pr (Builtin.append_ #[157, 157] 157 #[(.slice s4.a s4.len s4.cap), (.slice s3.a s3.len s3.cap)]) w9 = .ok (.slice s9.a s9.len s9.cap) w10 ∧
          ∃ (S11 : World → Prop),
          (∀ w, S11 w → S10 w) ∧
          S11 w10 ∧
          ∃ (s10 : SV) (w11 : World),
          Sem.run Pr (Builtin.append_ #[157, 157] 157 #[(.slice s9.a s9.len s9.cap), (.slice s8.a s8.len s8.cap)]) w10 = .ok (.slice s10.a s10.len s10.cap) w11 ∧
          ∃ (S12 : World → Prop),
          (∀ w, S12 w → S11 w) ∧
          S12 w11 ∧
          optK x0 fun a6 =>
            ∃ (w12 : World),
            Sem.run Pr (Instr.storeAt 157 (.pointer (some (Addr.add a6 3))) (.slice s10.a s10.len s10.cap)) w11 = .ok () w12 ∧
            ∃ (S13 : World → Prop),
            S13 w12 ∧
            R (.tuple #[]) w12) ∧
          ∃ (s11 : SV) (w13 : World),
          Sem.run Pr (Instr.buildSlice 157 1 #[(0, (.agg #[(.string str3), (.string str4), (.int .i64 n2)]))]) (World.drew w3) = .ok (.slice s11.a s11.len s11.cap) w13 ∧
          ∃ (S14 : World → Prop),
          (∀ w, S14 w → S4 w) ∧
          S14 w13 ∧
          ∃ (s12 : SV) (w14 : World),
          Sem.run Pr (Instr.buildSlice 157 0 #[]) w13 = .ok (.slice s12.a s12.len s12.cap) w14 ∧
          ∃ (S15 : World → Prop),
          (∀ w, S15 w → S14 w) ∧
          S15 w14 ∧
          ∃ (s13 : SV) (w15 : World),
          Sem.run Pr (Builtin.append_ #[157, 157] 157 #[(.slice s12.a s12.len s12.cap), (.slice s3.a s3.len s3.cap)]) w14 = .ok (.slice s13.a s13.len s13.cap) w15 ∧
          ∃ (S16 : World → Prop),
          (∀ w, S16 w → S15 w) ∧
          S16 w15 ∧
          ∃ (s14 : SV) (w16 : World),
          Sem.run Pr (Builtin.append_ #[157, 157] 157 #[(.slice s13.a s13.len s13.cap), (.slice s11.a s11.len s11.cap)]) w15 = .ok (.slice s14.a s14.len s14.cap) w16 ∧
          ∃ (S17 : World → Prop),
          (∀ w, S17 w → S16 w) ∧
          S17 w16 ∧
          optK x0 fun a7 =>
            ∃ (w17 : World),
            Sem.run Pr (Instr.storeAt 157 (.pointer (some (Addr.add a7 3))) (.slice s14.a s14.len s14.cap)) w16 = .ok () w17 ∧
            ∃ (S18 : World → Prop),
            S18 w17 ∧
            R (.tuple #[]) w17

theorem call142 {x0 : Option Addr} {x1_From : ByteArray} {x1_To : ByteArray} {x1_File : Int} {w0 : World} {R : Ending → World → Prop} (h : ir142 x0 x1_From x1_To x1_File w0 fun v w => R (.returned v) w) : Calls Pr 142 #[.pointer x0, .agg #[(.string x1_From), (.string x1_To), (.int .i64 x1_File)]] w0 R := by
  refine calls_of_vc (ann := []) (E := []) (args := [.pointer x0, .agg #[(.string x1_From), (.string x1_To), (.int .i64 x1_File)]]) follows Try.func142 rfl (by kernel_rfl) ?_
  apply by_eq h
  kernel_rfl

/-- creel/creelref04.with -/
def ir143 (x0 : SV) (x1 : ByteArray) (x2 : Int) (w0 : World) (R : Value → World → Prop) : Prop :=
  Calls Pr 144 #[(.slice x0.a x0.len x0.cap), (.string x1)] w0 fun e1 w1 =>
    ∃ (s1 : SV),
    e1 = .returned (.slice s1.a s1.len s1.cap) ∧
    LoopT (σ := Int × Bool × SV × Unit) (fun σ1 w2 K1 =>
      ∀ _ : Env,
      brc (decide (σ1.1 < ((s1.len : Nat) : Int)))
        (brc (!σ1.2.1)
            (((0 : Int) ≤ σ1.1 ∧ σ1.1 < ((s1.len : Nat) : Int)) ∧
              optK s1.a fun a1 =>
                ∃ (str1 : ByteArray),
                At Pr w2 (loadVar 9 (Addr.add (Addr.add a1 (Int.toNat σ1.1 * 2)) 0)) (.string str1) ∧
                brc (!((Op.bytesLess (ByteArray.toList str1) (ByteArray.toList x1)) || (ByteArray.toList str1 == ByteArray.toList x1)))
                  (∃ (s2 : SV) (w3 : World),
                    Sem.run Pr (Instr.buildSlice 156 1 #[(0, (.agg #[(.string x1), (.int .i64 x2)]))]) w2 = .ok (.slice s2.a s2.len s2.cap) w3 ∧
                    ∃ (s3 : SV) (w4 : World),
                    Sem.run Pr (Builtin.append_ #[156, 156] 156 #[(.slice σ1.2.2.1.a σ1.2.2.1.len σ1.2.2.1.cap), (.slice s2.a s2.len s2.cap)]) w3 = .ok (.slice s3.a s3.len s3.cap) w4 ∧
                    ((0 : Int) ≤ σ1.1 ∧ σ1.1 < ((s1.len : Nat) : Int)) ∧
                    optK s1.a fun a2 =>
                      ∃ (str2 : ByteArray) (n1 : Int),
                      At Pr w4 (loadVar 163 (Addr.add a2 (Int.toNat σ1.1 * 2))) (.agg #[(.string str2), (.int .i64 n1)]) ∧
                      ∃ (s4 : SV) (w5 : World),
                      Sem.run Pr (Instr.buildSlice 156 1 #[(0, (.agg #[(.string str2), (.int .i64 n1)]))]) w4 = .ok (.slice s4.a s4.len s4.cap) w5 ∧
                      ∃ (s5 : SV) (w6 : World),
                      Sem.run Pr (Builtin.append_ #[156, 156] 156 #[(.slice s3.a s3.len s3.cap), (.slice s4.a s4.len s4.cap)]) w5 = .ok (.slice s5.a s5.len s5.cap) w6 ∧
                      K1 (IntKind.wrap .i64 (σ1.1 + 1), true, s5, ()) w6)
                  (((0 : Int) ≤ σ1.1 ∧ σ1.1 < ((s1.len : Nat) : Int)) ∧
                    optK s1.a fun a3 =>
                      ∃ (str3 : ByteArray) (n2 : Int),
                      At Pr w2 (loadVar 163 (Addr.add a3 (Int.toNat σ1.1 * 2))) (.agg #[(.string str3), (.int .i64 n2)]) ∧
                      ∃ (s6 : SV) (w7 : World),
                      Sem.run Pr (Instr.buildSlice 156 1 #[(0, (.agg #[(.string str3), (.int .i64 n2)]))]) w2 = .ok (.slice s6.a s6.len s6.cap) w7 ∧
                      ∃ (s7 : SV) (w8 : World),
                      Sem.run Pr (Builtin.append_ #[156, 156] 156 #[(.slice σ1.2.2.1.a σ1.2.2.1.len σ1.2.2.1.cap), (.slice s6.a s6.len s6.cap)]) w7 = .ok (.slice s7.a s7.len s7.cap) w8 ∧
                      K1 (IntKind.wrap .i64 (σ1.1 + 1), σ1.2.1, s7, ()) w8))
            (((0 : Int) ≤ σ1.1 ∧ σ1.1 < ((s1.len : Nat) : Int)) ∧
              optK s1.a fun a4 =>
                ∃ (str4 : ByteArray) (n3 : Int),
                At Pr w2 (loadVar 163 (Addr.add a4 (Int.toNat σ1.1 * 2))) (.agg #[(.string str4), (.int .i64 n3)]) ∧
                ∃ (s8 : SV) (w9 : World),
                Sem.run Pr (Instr.buildSlice 156 1 #[(0, (.agg #[(.string str4), (.int .i64 n3)]))]) w2 = .ok (.slice s8.a s8.len s8.cap) w9 ∧
                ∃ (s9 : SV) (w10 : World),
                Sem.run Pr (Builtin.append_ #[156, 156] 156 #[(.slice σ1.2.2.1.a σ1.2.2.1.len σ1.2.2.1.cap), (.slice s8.a s8.len s8.cap)]) w9 = .ok (.slice s9.a s9.len s9.cap) w10 ∧
                K1 (IntKind.wrap .i64 (σ1.1 + 1), σ1.2.1, s9, ()) w10))
        (brc (!σ1.2.1)
            (∃ (s10 : SV) (w11 : World),
              Sem.run Pr (Instr.buildSlice 156 1 #[(0, (.agg #[(.string x1), (.int .i64 x2)]))]) w2 = .ok (.slice s10.a s10.len s10.cap) w11 ∧
              ∃ (s11 : SV) (w12 : World),
              Sem.run Pr (Builtin.append_ #[156, 156] 156 #[(.slice σ1.2.2.1.a σ1.2.2.1.len σ1.2.2.1.cap), (.slice s10.a s10.len s10.cap)]) w11 = .ok (.slice s11.a s11.len s11.cap) w12 ∧
              R (.slice s11.a s11.len s11.cap) w12)
            (R (.slice σ1.2.2.1.a σ1.2.2.1.len σ1.2.2.1.cap) w2))) (0, false, SV.mk none 0 0, ()) w1

theorem call143 {x0 : SV} {x1 : ByteArray} {x2 : Int} {w0 : World} {R : Ending → World → Prop} (h : ir143 x0 x1 x2 w0 fun v w => R (.returned v) w) : Calls Pr 143 #[.slice x0.a x0.len x0.cap, .string x1, .int .i64 x2] w0 R := by
  refine calls_of_vc (ann := [(5, [(10, .int .i64), (9, .bool), (8, .slice)])]) (E := []) (args := [.slice x0.a x0.len x0.cap, .string x1, .int .i64 x2]) follows Try.func143 rfl (by kernel_rfl) ?_
  apply by_eq h
  kernel_rfl

/-- creel/creelref04.without -/
def ir144 (x0 : SV) (x1 : ByteArray) (w0 : World) (R : Value → World → Prop) : Prop :=
  LoopT (σ := Int × SV × Unit) (fun σ1 w1 K1 =>
    ∀ _ : Env,
    brc (decide (σ1.1 < ((x0.len : Nat) : Int)))
      (((0 : Int) ≤ σ1.1 ∧ σ1.1 < ((x0.len : Nat) : Int)) ∧
        optK x0.a fun a1 =>
          ∃ (str1 : ByteArray),
          At Pr w1 (loadVar 9 (Addr.add (Addr.add a1 (Int.toNat σ1.1 * 2)) 0)) (.string str1) ∧
          brc (!(ByteArray.toList str1 == ByteArray.toList x1))
            (((0 : Int) ≤ σ1.1 ∧ σ1.1 < ((x0.len : Nat) : Int)) ∧
              optK x0.a fun a2 =>
                ∃ (str2 : ByteArray) (n1 : Int),
                At Pr w1 (loadVar 163 (Addr.add a2 (Int.toNat σ1.1 * 2))) (.agg #[(.string str2), (.int .i64 n1)]) ∧
                ∃ (s1 : SV) (w2 : World),
                Sem.run Pr (Instr.buildSlice 156 1 #[(0, (.agg #[(.string str2), (.int .i64 n1)]))]) w1 = .ok (.slice s1.a s1.len s1.cap) w2 ∧
                ∃ (s2 : SV) (w3 : World),
                Sem.run Pr (Builtin.append_ #[156, 156] 156 #[(.slice σ1.2.1.a σ1.2.1.len σ1.2.1.cap), (.slice s1.a s1.len s1.cap)]) w2 = .ok (.slice s2.a s2.len s2.cap) w3 ∧
                K1 (IntKind.wrap .i64 (σ1.1 + 1), s2, ()) w3)
            (K1 (IntKind.wrap .i64 (σ1.1 + 1), σ1.2.1, ()) w1))
      (R (.slice σ1.2.1.a σ1.2.1.len σ1.2.1.cap) w1)) (0, SV.mk none 0 0, ()) w0

theorem call144 {x0 : SV} {x1 : ByteArray} {w0 : World} {R : Ending → World → Prop} (h : ir144 x0 x1 w0 fun v w => R (.returned v) w) : Calls Pr 144 #[.slice x0.a x0.len x0.cap, .string x1] w0 R := by
  refine calls_of_vc (ann := [(3, [(6, .int .i64), (5, .slice)])]) (E := []) (args := [.slice x0.a x0.len x0.cap, .string x1]) follows Try.func144 rfl (by kernel_rfl) ?_
  apply by_eq h
  kernel_rfl

end Go.Proofs.Ytonjaaljnjjjcaa

/- The program's disk: Doom, Grow. Conditions: as each lemma says. -/
set_option linter.unusedVariables false
set_option linter.unusedSimpArgs false
namespace Go.Proofs.Ytonjaaljnjjjcaa
open Go Go.RowKit

/-- What a disk's files, names and changes are alone. -/
theorem DRep.same {D : DS} {M M' : MDisk} {I : List Chunk} (h : DRep D M I) (h1 : M'.files = M.files) (h2 : M'.now = M.now) (h3 : M'.kept = M.kept) (h4 : M'.changes = M.changes) : DRep D M' I :=
  ⟨h1 ▸ h.files, h.bytes, h2 ▸ h.now, h3 ▸ h.kept, by rw [h4]; exact h.own, by rw [h4]; exact h.chOk⟩

/-- Doom. -/
theorem k49 {E w : World} {L I : List Chunk} {M : MDisk} {D : DS} {d : Nat} (hS : Sep E w (D.chunks M d ++ L)) (hD : DRep D M I) (n : Int) :
    Calls Pr 49 #[.pointer (some ⟨d, 0, none⟩), .int .i64 n] w fun e w' => e = .returned (.int .i64 (M.doom n).1) ∧ DRep D (M.doom n).2 I ∧ Sep E w' (D.chunks (M.doom n).2 d ++ L) := by
  refine call49 ?_
  unfold ir49
  refine brc_false rfl (brc_intro (fun h => ?_) (fun h => ?_))
  · have h : n < 0 := of_decide_eq_true h
    have hm : M.doom n = (1, M) := by unfold MDisk.doom; rw [if_pos h]
    rw [hm]
    exact ⟨rfl, hD, hS⟩
  · have h : ¬ n < 0 := of_decide_eq_false h
    have hm : M.doom n = (0, { M with doomed := true, left := n.toNat }) := by unfold MDisk.doom; rw [if_neg h]
    rw [hm]
    obtain ⟨w1, h1, hS1⟩ := Sep.store (o := 5) (n := 1) (v := .bool true) (t := 4) hS (by kernel_rfl) rfl (by simp) (by simp [Value.cells, Value.oneCell'])
    have hS1 : Sep E w1 (D.chunks { M with doomed := true } d ++ L) := hS1
    obtain ⟨w2, h2, hS2⟩ := Sep.store (o := 6) (n := 1) (v := .int .i64 n) (t := 3) hS1 (by kernel_rfl) rfl (by simp) (by simp [Value.cells, Value.oneCell'])
    refine ⟨w1, h1, w2, h2, rfl, hD.same rfl rfl rfl rfl, ?_⟩
    have e : n = ((n.toNat : Nat) : Int) := by omega
    have hc : dChunk { M with doomed := true, left := n.toNat } d D.mn D.mq D.cs = (d, .cells (spl [.map (some D.mn), .map (some D.mq), slV D.cs, .int .i64 (M.room : Int), .bool M.down, .bool true, .int .i64 (M.left : Int)] 6 (Value.int .i64 n).cells.toList).toArray 140 (0, 0)) := by
      show (d, Obj.cells #[.map (some D.mn), .map (some D.mq), slV D.cs, .int .i64 (M.room : Int), .bool M.down, .bool true, .int .i64 ((n.toNat : Nat) : Int)] 140 (0, 0)) = _
      rw [← e]
      rfl
    show Sep E w2 (dChunk { M with doomed := true, left := n.toNat } d D.mn D.mq D.cs :: _)
    rw [hc]
    exact hS2

/-- Grow. -/
theorem k95 {E w : World} {L I : List Chunk} {M : MDisk} {D : DS} {d : Nat} (hS : Sep E w (D.chunks M d ++ L)) (hD : DRep D M I) (n : Int) :
    Calls Pr 95 #[.pointer (some ⟨d, 0, none⟩), .int .i64 n] w fun e w' => e = .returned (.int .i64 (M.grow n).1) ∧ DRep D (M.grow n).2 I ∧ Sep E w' (D.chunks (M.grow n).2 d ++ L) := by
  refine call95 ?_
  unfold ir95
  refine brc_false rfl (brc_intro (fun h => ?_) (fun h => ?_))
  · have h : n < 0 := of_decide_eq_true h
    have hm : M.grow n = (1, M) := by unfold MDisk.grow; rw [if_pos h]
    rw [hm]
    exact ⟨rfl, hD, hS⟩
  · have h : ¬ n < 0 := of_decide_eq_false h
    have hm : M.grow n = (0, { M with room := n.toNat }) := by unfold MDisk.grow; rw [if_neg h]
    rw [hm]
    obtain ⟨w1, h1, hS1⟩ := Sep.store (o := 3) (n := 1) (v := .int .i64 n) (t := 3) hS (by kernel_rfl) rfl (by simp) (by simp [Value.cells, Value.oneCell'])
    refine ⟨w1, h1, rfl, hD.same rfl rfl rfl rfl, ?_⟩
    have e : n = ((n.toNat : Nat) : Int) := by omega
    have hc : dChunk { M with room := n.toNat } d D.mn D.mq D.cs = (d, .cells (spl [.map (some D.mn), .map (some D.mq), slV D.cs, .int .i64 (M.room : Int), .bool M.down, .bool M.doomed, .int .i64 (M.left : Int)] 3 (Value.int .i64 n).cells.toList).toArray 140 (0, 0)) := by
      show (d, Obj.cells #[.map (some D.mn), .map (some D.mq), slV D.cs, .int .i64 ((n.toNat : Nat) : Int), .bool M.down, .bool M.doomed, .int .i64 (M.left : Int)] 140 (0, 0)) = _
      rw [← e]
      rfl
    show Sep E w1 (dChunk { M with room := n.toNat } d D.mn D.mq D.cs :: _)
    rw [hc]
    exact hS1

end Go.Proofs.Ytonjaaljnjjjcaa

/- The library's sort of strings, laid at this program. Conditions: none. -/
set_option linter.unusedVariables false
set_option linter.unusedSimpArgs false
namespace Go.Proofs.Ytonjaaljnjjjcaa
open Go Go.Shelf

def laysSort_ren : Go.Shelf.Ren := ⟨fun | 190 => 146 | 125 => 160 | 258 => 159 | 128 => 177 | 129 => 178 | 302 => 168 | 303 => 169 | 304 => 170 | 305 => 171 | 306 => 172 | 307 => 173 | 308 => 174 | 309 => 175 | 310 => 176 | 333 => 182 | 329 => 183 | 330 => 184 | 334 => 185 | 335 => 186 | 336 => 187 | 344 => 188 | n => n, fun | 31 => 78 | 9 => 9 | 3 => 3 | 46 => 217 | 0 => 0 | 51 => 206 | 53 => 181 | 4 => 4 | 183 => 223 | 182 => 222 | 131 => 228 | 5 => 5 | 218 => 236 | 222 => 240 | 228 => 242 | 229 => 243 | n => n, fun | n => n⟩

theorem laysSort : Go.Proofs.Lays.n190 Try.prog laysSort_ren := {
  mixed := by kernel_rfl,
  f125 := Try.func160.trans (congrArg some (by kernel_rfl)),
  f128 := Try.func177.trans (congrArg some (by kernel_rfl)),
  f129 := Try.func178.trans (congrArg some (by kernel_rfl)),
  f190 := Try.func146.trans (congrArg some (by kernel_rfl)),
  f258 := Try.func159.trans (congrArg some (by kernel_rfl)),
  f302 := Try.func168.trans (congrArg some (by kernel_rfl)),
  f303 := Try.func169.trans (congrArg some (by kernel_rfl)),
  f304 := Try.func170.trans (congrArg some (by kernel_rfl)),
  f305 := Try.func171.trans (congrArg some (by kernel_rfl)),
  f306 := Try.func172.trans (congrArg some (by kernel_rfl)),
  f307 := Try.func173.trans (congrArg some (by kernel_rfl)),
  f308 := Try.func174.trans (congrArg some (by kernel_rfl)),
  f309 := Try.func175.trans (congrArg some (by kernel_rfl)),
  f310 := Try.func176.trans (congrArg some (by kernel_rfl)),
  f329 := Try.func183.trans (congrArg some (by kernel_rfl)),
  f330 := Try.func184.trans (congrArg some (by kernel_rfl)),
  f333 := Try.func182.trans (congrArg some (by kernel_rfl)),
  f334 := Try.func185.trans (congrArg some (by kernel_rfl)),
  f335 := Try.func186.trans (congrArg some (by kernel_rfl)),
  f336 := Try.func187.trans (congrArg some (by kernel_rfl)),
  f344 := Try.func188.trans (congrArg some (by kernel_rfl)),
  t0 := Try.underlying0,
  a0 := Try.isAgg0,
  z0 := Try.sizeOf0,
  v0 := Try.zeroValue0,
  t3 := Try.underlying3,
  a3 := Try.isAgg3,
  z3 := Try.sizeOf3,
  v3 := Try.zeroValue3,
  t4 := Try.underlying4,
  a4 := Try.isAgg4,
  z4 := Try.sizeOf4,
  v4 := Try.zeroValue4,
  t5 := Try.underlying5,
  a5 := Try.isAgg5,
  z5 := Try.sizeOf5,
  v5 := Try.zeroValue5,
  t9 := Try.underlying9,
  a9 := Try.isAgg9,
  z9 := Try.sizeOf9,
  v9 := Try.zeroValue9,
  t31 := Try.underlying78,
  a31 := Try.isAgg78,
  z31 := Try.sizeOf78,
  v31 := Try.zeroValue78,
  t46 := Try.underlying217,
  a46 := Try.isAgg217,
  z46 := Try.sizeOf217,
  v46 := Try.zeroValue217,
  t51 := Try.underlying206,
  a51 := Try.isAgg206,
  z51 := Try.sizeOf206,
  v51 := Try.zeroValue206,
  t53 := Try.underlying181,
  a53 := Try.isAgg181,
  z53 := Try.sizeOf181,
  v53 := Try.zeroValue181,
  t131 := Try.underlying228,
  a131 := Try.isAgg228,
  z131 := Try.sizeOf228,
  v131 := Try.zeroValue228,
  t182 := Try.underlying222,
  a182 := Try.isAgg222,
  z182 := Try.sizeOf222,
  v182 := Try.zeroValue222,
  t183 := Try.underlying223,
  a183 := Try.isAgg223,
  z183 := Try.sizeOf223,
  v183 := Try.zeroValue223,
  t218 := Try.underlying236,
  a218 := Try.isAgg236,
  z218 := Try.sizeOf236,
  v218 := Try.zeroValue236,
  t222 := Try.underlying240,
  a222 := Try.isAgg240,
  z222 := Try.sizeOf240,
  v222 := Try.zeroValue240,
  t228 := Try.underlying242,
  a228 := Try.isAgg242,
  z228 := Try.sizeOf242,
  v228 := Try.zeroValue242,
  t229 := Try.underlying243,
  a229 := Try.isAgg243,
  z229 := Try.sizeOf243,
  v229 := Try.zeroValue243 }

end Go.Proofs.Ytonjaaljnjjjcaa

/- Slices of encoded elements. Conditions: as each lemma says. -/
set_option linter.unusedVariables false
set_option linter.unusedSimpArgs false
namespace Go.Proofs.Ytonjaaljnjjjcaa
open Go Go.RowKit

theorem addA (a : Addr) (m n : Nat) : (a.add m).add n = a.add (m + n) := by
  unfold Addr.add
  by_cases hm : m = 0
  · subst hm; simp
  · by_cases hn : n = 0
    · subst hn; simp [hm]
    · have : ¬ m + n = 0 := by omega
      simp [hm, hn, Nat.add_assoc]

/-- How an element lies. -/
structure EncOk {α : Type} (enc : α → List Value) (sz : Nat) : Prop where
  len : ∀ x, (enc x).length = sz
  one : ∀ x, ∀ u ∈ enc x, u.oneCell' = true
  pos : 0 < sz

section
variable {α : Type} {enc : α → List Value} {sz : Nat}

theorem EncOk.flat (h : EncOk enc sz) : ∀ xs : List α, (xs.flatMap enc).length = xs.length * sz
  | [] => by simp
  | x :: xs => by
    rw [List.flatMap_cons, List.length_append, h.len, h.flat xs, List.length_cons, Nat.succ_mul]
    omega
theorem EncOk.ones (h : EncOk enc sz) (xs : List α) : ∀ u ∈ xs.flatMap enc, u.oneCell' = true := fun u hu => by
  obtain ⟨x, _, hu⟩ := List.mem_flatMap.1 hu
  exact h.one x u hu
theorem EncOk.part (h : EncOk enc sz) : ∀ (xs : List α) (i : Nat) (x : α), xs[i]? = some x → ((xs.flatMap enc).drop (i * sz)).take sz = enc x
  | [], i, x, hx => by simp at hx
  | y :: xs, 0, x, hx => by
    simp at hx
    subst hx
    rw [List.flatMap_cons, Nat.zero_mul, List.drop_zero, List.take_append_of_le_length (by rw [h.len]; exact Nat.le_refl _), List.take_of_length_le (by rw [h.len]; exact Nat.le_refl _)]
  | y :: xs, i + 1, x, hx => by
    have ih := h.part xs i x (by simpa using hx)
    rw [List.flatMap_cons, Nat.succ_mul, Nat.add_comm, ← List.drop_drop]
    have e : (enc y ++ xs.flatMap enc).drop sz = xs.flatMap enc := by
      rw [List.drop_append_of_le_length (by rw [h.len]; exact Nat.le_refl _), List.drop_of_length_le (by rw [h.len]; exact Nat.le_refl _)]
      rfl
    rw [e]
    exact ih
theorem EncOk.cell (h : EncOk enc sz) {xs : List α} {i j : Nat} {x : α} {v : Value} (hx : xs[i]? = some x) (hj : (enc x)[j]? = some v) : (xs.flatMap enc)[i * sz + j]? = some v := by
  have hp := h.part xs i x hx
  have hjl := (List.getElem?_eq_some_iff.1 hj).1
  rw [h.len] at hjl
  rw [← hp, List.getElem?_take, if_pos hjl, List.getElem?_drop] at hj
  exact hj

theorem RdG.size (h : EncOk enc sz) {I : List Chunk} {s : SV} {xs : List α} (hr : RdS I sz s (xs.flatMap enc)) : s.len = xs.length := by
  have := hr.len
  rw [h.flat] at this
  exact (Nat.eq_of_mul_eq_mul_right h.pos this).symm

/-- An element, read in whatever world: whole, and by its parts. -/
theorem RdG.at_ (h : EncOk enc sz) {I : List Chunk} {s : SV} {xs : List α} (hr : RdS I sz s (xs.flatMap enc)) {i : Nat} {x : α} (hx : xs[i]? = some x) :
    ∃ a, s.a = some a ∧ (∀ {E w : World} {L : List Chunk} {t : TypeId}, structT Pr t = true → sizeOf? Pr t = some sz → Sep E w L → (∀ c ∈ I, c ∈ L) → At Pr w (loadVar t (a.add (i * sz))) (.agg (enc x).toArray)) ∧
      (∀ {j : Nat} {v : Value} {E w : World} {L : List Chunk} {t : TypeId}, (enc x)[j]? = some v → oneT Pr t = true → Sep E w L → (∀ c ∈ I, c ∈ L) → At Pr w (loadVar t ((a.add (i * sz)).add j)) v) := by
  have hi := (List.getElem?_eq_some_iff.1 hx).1
  have hsz := RdG.size h hr
  cases ha : s.a with
  | none => have := hr.nil ha; omega
  | some a =>
    rcases hr.at_ _ ha with h0 | ⟨hsp, cs, T, fr, hc, hv⟩
    · omega
    · obtain ⟨b, o, sp⟩ := a
      simp only at hsp
      subst hsp
      refine ⟨_, rfl, fun ht hn hS hI => ?_, fun {j v E w L t} hj ht hS hI => ?_⟩
      · rw [addr_add]
        have hcs : o + xs.length * sz ≤ cs.size := by
          refine Classical.byContradiction fun hn => ?_
          have hpos : 0 < xs.length * sz := Nat.mul_pos (by omega) h.pos
          have hl := h.flat xs
          have hlt : xs.length * sz - 1 < (xs.flatMap enc).length := by omega
          have h3 := (Array.getElem?_eq_some_iff.1 (hv (xs.length * sz - 1) (xs.flatMap enc)[xs.length * sz - 1] (by simp [hlt]))).1
          simp only at h3
          omega
        have hbound : (i + 1) * sz ≤ xs.length * sz := Nat.mul_le_mul_right _ (by omega)
        rw [Nat.succ_mul] at hbound
        refine hS.loadS (hI _ hc) ht hn ?_ (by omega)
        rw [← h.part xs i x hx]
        apply List.ext_getElem?
        intro j
        rw [List.getElem?_take, List.getElem?_take]
        split
        · rename_i hj
          rw [List.getElem?_drop, List.getElem?_drop]
          have hl := h.flat xs
          have hlt : i * sz + j < (xs.flatMap enc).length := by omega
          have := hv (i * sz + j) (xs.flatMap enc)[i * sz + j] (by simp [hlt])
          simp only at this
          rw [Array.getElem?_toList, Nat.add_assoc, this, List.getElem?_eq_getElem hlt]
        · rfl
      · rw [addr_add, addr_add]
        have := hv _ _ (h.cell hx hj)
        simp only at this
        rw [← Nat.add_assoc] at this
        exact hS.load (hI _ hc) this ht

/-- One more behind an owned slice. -/
theorem Sep.pushG (h : EncOk enc sz) {E w : World} {C L : List Chunk} {t T bytes : Nat} {z : Value} (ti : TI t T sz bytes z) {s : SV} {xs : List α} {x : α} {v : Value} (hS : Sep E w (C ++ L)) (ho : Own T sz s (xs.flatMap enc) C)
    (hv : bsV Pr t 1 [(0, v)] = some (enc x)) (hb : (xs.length + 1) * bytes ≤ 140737488355328) (hm : xs.length + 1 ≤ maxLen) {ty : Nat} :
    ∃ (s2 : SV) (w2 : World), Sem.run Pr (Instr.buildSlice t 1 #[(0, v)]) w = .ok (.slice s2.a s2.len s2.cap) w2 ∧
      ∃ (s3 : SV) (w3 : World) (C' G : List Chunk), Sem.run Pr (Builtin.append_ #[t, t] ty #[.slice s.a s.len s.cap, .slice s2.a s2.len s2.cap]) w2 = .ok (.slice s3.a s3.len s3.cap) w3 ∧ Own T sz s3 ((xs ++ [x]).flatMap enc) C' ∧ Sep E w3 (C' ++ (G ++ L)) := by
  obtain ⟨g, w2, h2, hS2⟩ := hS.buildSlice (t := t) (T := T) (len := 1) (parts := [(0, v)]) ti.und hv
  have hS2' : Sep E w2 (C ++ ((g, .cells (enc x).toArray T (0, 0)) :: L)) := hS2.weak (by intro f; simp only [ms_append, ms_cons, ms_nil]; omega)
  have hl := RdG.size h ho.rds
  have hsrc : RdS [(g, Obj.cells (enc x).toArray T (0, 0))] sz ⟨some ⟨g, 0, none⟩, 1, 1⟩ (enc x) := (Own.new (T := T) (g := g) (n := 1) (by rw [h.len, Nat.one_mul]) (by decide)).rds
  obtain ⟨s3, w3, C', h3, ho3, _, hS3⟩ := Sep.append (ty := ty) ti hS2' ho (hsrc.src hS2' fun c hc => by simp at hc; subst hc; simp) (h.one x) (by show (s.len + 1) * bytes ≤ _; rw [hl]; exact hb) (by show s.len + 1 ≤ maxLen; rw [hl]; exact hm)
  exact ⟨⟨some ⟨g, 0, none⟩, 1, 1⟩, w2, h2, s3, w3, C', [_], h3, by rw [List.flatMap_append]; simpa using ho3, hS3⟩

/-- A literal of one. -/
theorem Sep.litG1 (h : EncOk enc sz) {E w : World} {L : List Chunk} {t T bytes : Nat} {z : Value} (ti : TI t T sz bytes z) {x : α} {v : Value} (hS : Sep E w L) (hv : bsV Pr t 1 [(0, v)] = some (enc x)) :
    ∃ (s : SV) (w2 : World) (C : List Chunk), Sem.run Pr (Instr.buildSlice t 1 #[(0, v)]) w = .ok (.slice s.a s.len s.cap) w2 ∧ Own T sz s ([x].flatMap enc) C ∧ Sep E w2 (C ++ L) := by
  obtain ⟨g, w2, h2, hS2⟩ := hS.buildSlice (t := t) (T := T) (len := 1) (parts := [(0, v)]) ti.und hv
  refine ⟨⟨some ⟨g, 0, none⟩, 1, 1⟩, w2, [_], h2, ?_, hS2⟩
  have : [x].flatMap enc = enc x := by simp
  rw [this]
  exact Own.new (by rw [h.len, Nat.one_mul]) (by decide)
/-- A literal of none. -/
theorem Sep.litG0 {E w : World} {L : List Chunk} {t T bytes : Nat} {z : Value} (ti : TI t T sz bytes z) (hS : Sep E w L) (hv : bsV Pr t 0 [] = some []) :
    ∃ (s : SV) (w2 : World) (C : List Chunk), Sem.run Pr (Instr.buildSlice t 0 #[]) w = .ok (.slice s.a s.len s.cap) w2 ∧ Own T sz s (([] : List α).flatMap enc) C ∧ Sep E w2 (C ++ L) := by
  obtain ⟨g, w2, h2, hS2⟩ := hS.buildSlice (t := t) (T := T) (len := 0) (parts := []) ti.und hv
  exact ⟨⟨some ⟨g, 0, none⟩, 0, 0⟩, w2, [_], h2, Own.new (by simp) (Nat.zero_le _), hS2⟩
/-- 'append(s, x...)'. -/
theorem Sep.appG (h : EncOk enc sz) {E w : World} {C L : List Chunk} {t T bytes : Nat} {z : Value} (ti : TI t T sz bytes z) {s x : SV} {xs ys : List α} (hS : Sep E w (C ++ L)) (ho : Own T sz s (xs.flatMap enc) C) (hx : RdS (C ++ L) sz x (ys.flatMap enc))
    (hb : (xs.length + ys.length) * bytes ≤ 140737488355328) (hm : xs.length + ys.length ≤ maxLen) {ty : Nat} :
    ∃ (s3 : SV) (w3 : World) (C' : List Chunk), Sem.run Pr (Builtin.append_ #[t, t] ty #[.slice s.a s.len s.cap, .slice x.a x.len x.cap]) w = .ok (.slice s3.a s3.len s3.cap) w3 ∧ Own T sz s3 ((xs ++ ys).flatMap enc) C' ∧ Sep E w3 (C' ++ L) := by
  have h1 := RdG.size h ho.rds
  have h2 := RdG.size h hx
  obtain ⟨s3, w3, C', h3, ho3, _, hS3⟩ := Sep.append (ty := ty) ti hS ho (hx.src hS fun c hc => hc) (h.ones ys) (by rw [h1, h2]; exact hb) (by rw [h1, h2]; exact hm)
  exact ⟨s3, w3, C', h3, by rw [List.flatMap_append]; exact ho3, hS3⟩
end

end Go.Proofs.Ytonjaaljnjjjcaa

/- The program's disk: names, told in order. Conditions: as each lemma says. -/
set_option linter.unusedVariables false
set_option linter.unusedSimpArgs false
namespace Go.Proofs.Ytonjaaljnjjjcaa
open Go Go.RowKit

theorem encStr_strOf (l : List UInt8) : encStr l = .string (strOf l) := rfl
theorem string_enc (k : ByteArray) : Value.string k = encStr k.data.toList := by
  cases k
  rfl

/-! ### What the sort leaves -/
theorem Sep.growS {E w : World} {L : List Chunk} (hS : Sep E w L) (os : Array Obj) : Sep E (Go.Sort.grow w os) L :=
  ⟨hS.os, hS.tape, hS.output, hS.uniq, fun c hc => by
    have h1 := hS.at_ c hc
    have h2 := hS.lt hc
    show (w.heap ++ os)[c.1]? = some c.2
    rw [Array.getElem?_append_left h2]
    exact h1⟩
theorem Sep.aheadS {E w : World} {L : List Chunk} (hS : Sep E w L) (n : Nat) : Sep E (Go.Sort.ahead w n) L := ⟨hS.os, hS.tape, hS.output, hS.uniq, hS.at_⟩
theorem Sep.rowS {E w : World} {L : List Chunk} {g : Nat} {cs : Array Value} {T : TypeId} {fr : Nat × Nat} (hS : Sep E w ((g, .cells cs T fr) :: L)) (f : Array Value → Array Value) : Sep E (Go.Sort.mapBlock w g f) ((g, .cells (f cs) T fr) :: L) := by
  have hb := hS.at_ _ List.mem_cons_self
  refine hS.turn rfl rfl rfl ?_ (fun i hi => ?_)
  · show (w.heap.modify g (Go.Sort.onCells f))[g]? = _
    simp only at hb
    rw [Array.getElem?_modify, if_pos rfl, hb]
    rfl
  · show (w.heap.modify g (Go.Sort.onCells f))[i]? = _
    rw [Array.getElem?_modify, if_neg (Ne.symm hi)]

/-- slices.Sort of strings. -/
theorem k146 {E w : World} {C L : List Chunk} {s : SV} {zs : List (List UInt8)} (hS : Sep E w (C ++ L)) (ho : Own 9 1 s (zs.map encStr) C) (hn : zs.length < 4611686018427387904) :
    Calls Pr 146 #[.slice s.a s.len s.cap] w fun e w' => e = .returned (.tuple #[]) ∧ ∃ C', Own 9 1 s ((zs.mergeSort fun x y => decide (x ≤ y)).map encStr) C' ∧ Sep E w' (C' ++ L) := by
  have hlen := ho.rds.len1
  rw [List.length_map] at hlen
  have hml : (zs.mergeSort fun x y => decide (x ≤ y)).length = zs.length := List.length_mergeSort zs
  rcases ho.form with ⟨h1, h2, h3, rfl⟩ | ⟨g, cur, h1, rfl, h2, h3, h4, h5⟩
  · have hz : zs = [] := List.eq_nil_of_length_eq_zero (by omega)
    subst hz
    rw [h2]
    refine Calls.mono (calls_of_every_depth fun D => AnyS.slices_Sort_string_none_alone laysSort D s.a s.cap w) ?_
    rintro e w' ⟨rfl, rfl⟩
    exact ⟨rfl, [], by simpa using ho, hS⟩
  · have hb : w.heap[g]? = some (.cells cur 9 (0, 0)) := hS.at_ (g, .cells cur 9 (0, 0)) (by simp)
    have hcur : ∀ j, j < zs.length → cur[j]? = some (encStr zs[j]!) := fun j hj => by
      have : (cur.toList.take (s.len * 1))[j]? = some (encStr zs[j]!) := by
        rw [h5, List.getElem?_map, List.getElem?_eq_getElem hj]
        simp [hj]
      rw [List.getElem?_take, if_pos (by omega)] at this
      simpa using this
    have hH : Go.Sort.Holds encStr w g 0 zs.toArray := fun j hj => by
      have hj : j < zs.length := by simpa using hj
      refine ⟨?_, ?_⟩
      · rw [Nat.zero_add]
        unfold World.cell?
        simp only [hb]
        have := hcur j hj
        simpa using this
      · unfold World.frozen?
        simp only [hb]
        simp
    rw [h1, hlen]
    refine Calls.mono (calls_of_every_depth fun D => AnyS.slices_Sort_string_alone laysSort D g 0 s.cap zs w hH (Array.getElem?_eq_some_iff.1 hb).1 hn) ?_
    rintro e w' ⟨rfl, n, os, rfl⟩
    generalize hm : (zs.mergeSort fun x y => decide (x ≤ y)) = ms' at hml
    refine ⟨rfl, [(g, .cells (Go.Sort.putCells encStr 0 ms'.toArray cur) 9 (0, 0))], ⟨by rw [List.length_map, hml, hlen, Nat.mul_one], .inr ⟨g, _, h1, rfl, h2, h3, ?_, ?_⟩⟩, ?_⟩
    · simp only [Go.Sort.putCells, Array.size_mapIdx]
      exact h4
    · apply List.ext_getElem?
      intro j
      rw [List.getElem?_take, List.getElem?_map]
      by_cases hj : j < zs.length
      · rw [if_pos (by omega), List.getElem?_eq_getElem (by omega : j < ms'.length)]
        have hcj := hcur j hj
        have hjc := (Array.getElem?_eq_some_iff.1 hcj).1
        rw [Array.getElem?_toList]
        simp only [Go.Sort.putCells, Array.getElem?_mapIdx]
        rw [Array.getElem?_eq_getElem hjc]
        have hj2 : j < ms'.toArray.size := by simpa [hml] using hj
        simp [hml, hj]
      · rw [if_neg (by omega), List.getElem?_eq_none (by omega : ms'.length ≤ j)]
        rfl
    · have := (hS.aheadS n).rowS (Go.Sort.putCells encStr 0 ms'.toArray)
      exact this.growS os

theorem nodup_of_map {α β : Type} (f : α → β) {l : List α} (h : (l.map f).Nodup) : l.Nodup := by
  rw [List.nodup_iff_pairwise_ne, List.pairwise_map] at h
  rw [List.nodup_iff_pairwise_ne]
  exact List.Pairwise.imp (fun hab e => hab (by rw [e])) h
theorem inj_of_nodup {α β : Type} {f : α → β} : ∀ {l : List α}, (l.map f).Nodup → ∀ {a b : α}, a ∈ l → b ∈ l → f a = f b → a = b
  | [], _, a, b, ha, _, _ => by cases ha
  | x :: l, h, a, b, ha, hb, e => by
    rw [List.map_cons, List.nodup_cons] at h
    rcases List.mem_cons.1 ha with ha1 | ha1
    · rcases List.mem_cons.1 hb with hb1 | hb1
      · rw [ha1, hb1]
      · exact absurd (List.mem_map.2 ⟨b, hb1, by rw [← e, ha1]⟩) h.1
    · rcases List.mem_cons.1 hb with hb1 | hb1
      · exact absurd (List.mem_map.2 ⟨a, ha1, by rw [e, hb1]⟩) h.1
      · exact inj_of_nodup h.2 ha1 hb1 e

/-! ### Names in order -/
theorem lt_bytes (x y : ByteArray) : nlt x y ↔ x.toList < y.toList := by
  unfold nlt
  rw [bytesLess_eq, decide_eq_true_iff]

theorem sort_names {nm : Names} (h : SortedN nm) {ks : List ByteArray} (hp : ks.Perm (nm.map (·.1))) : ((ks.map fun k => k.data.toList).mergeSort fun x y => decide (x ≤ y)) = nm.map fun x => x.1.data.toList := by
  have h1 : ((ks.map fun k => k.data.toList).mergeSort fun x y => decide (x ≤ y)).Perm (nm.map fun x => x.1.data.toList) := by
    refine (List.mergeSort_perm _ _).trans ?_
    have := hp.map fun k : ByteArray => k.data.toList
    rwa [List.map_map] at this
  have h2 : ((ks.map fun k => k.data.toList).mergeSort fun x y => decide (x ≤ y)).Pairwise fun x y => decide (x ≤ y) = true := by
    refine List.pairwise_mergeSort (fun a b c h1 h2 => ?_) (fun a b => ?_) _
    · rw [decide_eq_true_iff] at *
      exact List.le_trans h1 h2
    · have := List.le_total a b
      simpa using this
  have h3 : (nm.map fun x => x.1.data.toList).Pairwise fun x y => decide (x ≤ y) = true := by
    rw [List.pairwise_map]
    refine List.Pairwise.imp (fun {a b} hab => ?_) h
    rw [decide_eq_true_iff]
    rw [lt_bytes, ByteArray.toList_eq, ByteArray.toList_eq] at hab
    exact List.le_of_lt hab
  exact List.Perm.eq_of_pairwise (fun a b _ _ h1 h2 => List.le_antisymm (of_decide_eq_true h1) (of_decide_eq_true h2)) h2 h3 h1

theorem NameRep.keys {bs : List Nat} {nm : Names} {l : List (Ent ByteArray)} {c : Nat} (h : NameRep bs nm l c) : (l.map (·.k)).Perm (nm.map (·.1)) := by
  have hnd : (nm.map (·.1)).Nodup := by
    rw [List.nodup_iff_pairwise_ne, List.pairwise_map]
    exact List.Pairwise.imp (fun hab => nlt_ne hab) h.sorted
  refine (List.perm_ext_iff_of_nodup h.wf.keys hnd).2 fun k => ?_
  have hg := h.get k
  constructor
  · intro hk
    obtain ⟨e, he, rfl⟩ := List.mem_map.1 hk
    have : getE e.k l ≠ none := fun h0 => getE_none.1 h0 e he rfl
    rw [hg] at this
    cases hf : findN e.k nm with
    | none => rw [hf] at this; simp at this
    | some i => exact List.mem_map.2 ⟨_, mem_of_findN hf, rfl⟩
  · intro hk
    obtain ⟨x, hx, rfl⟩ := List.mem_map.1 hk
    rw [findN_mem h.sorted hx] at hg
    refine Classical.byContradiction fun hn => ?_
    have : getE x.1 l = none := getE_none.2 fun e he hek => hn (List.mem_map.2 ⟨e, he, hek⟩)
    rw [this] at hg
    simp at hg

theorem ti78 : TI 78 9 1 16 (.string ByteArray.empty) := ⟨by kernel_rfl, by kernel_rfl, rfl, by decide⟩
def encK (k : ByteArray) : List Value := [.string k]
theorem encK_ok : EncOk encK 1 := ⟨fun _ => rfl, fun x u hu => by simp [encK] at hu; subst hu; rfl, by decide⟩
theorem encK_map (ks : List ByteArray) : ks.flatMap encK = ks.map Value.string := by
  induction ks with
  | nil => rfl
  | cons k ks ih => simp [encK, ih]

/-- names.sorted. -/
theorem k110 {E w : World} {L : List Chunk} {m c : Nat} {l : List (Ent ByteArray)} {bs : List Nat} {nm : Names} (hS : Sep E w L) (hm : strM m l c ∈ L) (hr : NameRep bs nm l c) (hn : nm.length ≤ 1000000000000) :
    Calls Pr 110 #[.map (some m)] w fun e w' => ∃ (s : SV) (C G : List Chunk), e = .returned (.slice s.a s.len s.cap) ∧ Own 9 1 s ((nm.map (·.1)).flatMap encK) C ∧ Sep E w' (C ++ (G ++ L)) := by
  refine call110 ?_
  unfold ir110
  obtain ⟨it, w1, h1, hS1⟩ := hS.range hm u137
  refine ⟨_, w1, h1, ?_⟩
  have hll : l.length = nm.length := by
    have := hr.keys.length_eq
    simpa using this
  refine ⟨fun n σ w2 => ∃ (ks : List (Ent ByteArray)) (C G : List Chunk), ks.Sublist ks ∧ n = l.length - ks.length ∧ (∀ e ∈ ks, e ∈ l) ∧ (ks.map (·.born)).Nodup ∧ ks.length ≤ l.length ∧ Own 9 1 σ.1 ((ks.map (·.k)).flatMap encK) C ∧ Sep E w2 (iterC it m c (ks.map (·.born)) :: (C ++ (G ++ L))), l.length,
    ⟨[], [], [], List.Sublist.refl _, rfl, (fun e he => by cases he), List.nodup_nil, Nat.zero_le _, Own.nil _ _, hS1⟩, ?_⟩
  rintro n ⟨s, u⟩ w2 ⟨ks, C, G, _, rfl, hks, hnd, hkl, ho, hS2⟩ _
  dsimp only at ho ⊢
  refine hS2.next (l := l) (kv := Value.string) (by simp [hm]) hr.wf.born (fun hall => ?_) (fun e he hns w3 hS3 => ?_)
  · -- all have come
    have hp : (ks.map (·.k)).Perm (l.map (·.k)) := by
      have hpb : (ks.map (·.born)).Perm (l.map (·.born)) := by
        refine (List.perm_ext_iff_of_nodup hnd hr.wf.borns).2 fun b => ⟨fun hb => ?_, fun hb => ?_⟩
        · obtain ⟨e, he, rfl⟩ := List.mem_map.1 hb
          exact List.mem_map.2 ⟨e, hks e he, rfl⟩
        · obtain ⟨e, he, rfl⟩ := List.mem_map.1 hb
          exact hall e he
      have hpe : ks.Perm l := by
        have hlk : ks.Nodup := nodup_of_map _ hnd
        have hll : l.Nodup := nodup_of_map _ hr.wf.borns
        refine (List.perm_ext_iff_of_nodup hlk hll).2 fun e => ⟨hks e, fun he => ?_⟩
        have hb : e.born ∈ ks.map (·.born) := hall e he
        obtain ⟨e', he', hbe⟩ := List.mem_map.1 hb
        have : e' = e := inj_of_nodup hr.wf.borns (hks e' he') he hbe
        exact this ▸ he'
      exact hpe.map _
    have hsn := sort_names hr.sorted (hp.trans hr.keys)
    have hS2' : Sep E w2 (C ++ (iterC it m c (ks.map (·.born)) :: (G ++ L))) := hS2.weak (by intro f; simp only [ms_append, ms_cons, ms_nil]; omega)
    have ho' : Own 9 1 s (((ks.map (·.k)).map fun k => k.data.toList).map encStr) C := by
      rw [encK_map] at ho
      have : ((ks.map (·.k)).map fun k => k.data.toList).map encStr = (ks.map (·.k)).map Value.string := by
        rw [List.map_map]
        apply List.map_congr_left
        intro k _
        exact (string_enc k).symm
      rw [this]
      exact ho
    refine (k146 hS2' ho' (by simp; omega)).mono ?_
    rintro _ w4 ⟨rfl, C', ho4, hS4⟩
    refine ⟨rfl, s, C', iterC it m c (ks.map (·.born)) :: G, rfl, ?_, hS4.weak (by intro f; simp only [ms_append, ms_cons, ms_nil]; omega)⟩
    rw [hsn] at ho4
    rw [encK_map]
    have : (nm.map fun x => x.1.data.toList).map encStr = (nm.map (·.1)).map Value.string := by
      rw [List.map_map, List.map_map]
      apply List.map_congr_left
      intro x _
      exact (string_enc x.1).symm
    rw [this] at ho4
    exact ho4
  · -- one comes
    have hlt : ks.length < l.length := by
      have h1 : ((ks ++ [e]).map (·.born)).Nodup := by
        rw [List.map_append, List.nodup_append]
        refine ⟨hnd, by simp, fun a ha b hb => ?_⟩
        simp at hb
        subst hb
        exact fun h => hns (h ▸ ha)
      have hsub : ∀ b ∈ (ks ++ [e]).map (·.born), b ∈ l.map (·.born) := fun b hb => by
        obtain ⟨x, hx, rfl⟩ := List.mem_map.1 hb
        refine List.mem_map.2 ⟨x, ?_, rfl⟩
        rcases List.mem_append.1 hx with hx | hx
        · exact hks x hx
        · rw [List.mem_singleton] at hx
          subst hx
          exact he
      have := h1.length_le_of_subset hsub
      simp at this
      omega
    obtain ⟨i, _, hi, hpv⟩ := hr.ent he
    refine ⟨e.k, filePtr bs i, ?_, ?_⟩
    · have := hS3.entry (kv := Value.string) (e := e) (seen := ks.map (·.born)) (l := l) (m := m) (c := c) (it := it) (by simp) (by simp [hm]) he hr.wf.borns
      rw [hpv] at this
      exact this
    have hS3' : Sep E w3 (C ++ (iterC it m c (ks.map (·.born) ++ [e.born]) :: (G ++ L))) := hS3.weak (by intro f; simp only [ms_append, ms_cons, ms_nil]; omega)
    obtain ⟨s2, w4, h4, s3, w5, C', G', h5, ho5, hS5⟩ := hS3'.pushG encK_ok ti78 (x := e.k) (v := .string e.k) (ty := 78) ho (by kernel_rfl) (by simp; omega) (by simp; unfold maxLen; omega)
    refine ⟨s2, w4, h4, s3, w5, h5, l.length - (ks ++ [e]).length, by simp; omega, ks ++ [e], C', G' ++ G, List.Sublist.refl _, rfl, fun x hx => ?_, ?_, by simp; omega, ?_, ?_⟩
    · rcases List.mem_append.1 hx with hx | hx
      · exact hks x hx
      · rw [List.mem_singleton] at hx
        subst hx
        exact he
    · rw [List.map_append, List.nodup_append]
      refine ⟨hnd, by simp, fun a ha b hb => ?_⟩
      simp at hb
      subst hb
      exact fun h => hns (h ▸ ha)
    · rw [List.map_append]
      exact ho5
    · rw [List.map_append]
      show Sep E w5 (iterC it m c (ks.map (·.born) ++ [e.born]) :: (C' ++ ((G' ++ G) ++ L)))
      exact hS5.weak (by intro f; simp only [ms_append, ms_cons, ms_nil]; omega)

end Go.Proofs.Ytonjaaljnjjjcaa

/- Contracts: sums, fixed numbers, frames of the reference. Conditions: as each lemma says. -/
set_option linter.unusedVariables false
set_option linter.unusedSimpArgs false
namespace Go.Proofs.Ytonjaaljnjjjcaa
open Go Go.RowKit

theorem tm_nat (a b : Nat) : Int.tmod ((a : Nat) : Int) ((b : Nat) : Int) = ((a % b : Nat) : Int) := (Int.ofNat_tmod a b).symm
theorem td_nat (a b : Nat) : Int.tdiv ((a : Nat) : Int) ((b : Nat) : Int) = ((a / b : Nat) : Int) := (Int.ofNat_tdiv a b).symm
theorem tm2 (a : Nat) : Int.tmod ((a : Nat) : Int) 2 = ((a % 2 : Nat) : Int) := tm_nat a 2
theorem td2 (a : Nat) : Int.tdiv ((a : Nat) : Int) 2 = ((a / 2 : Nat) : Int) := td_nat a 2
theorem tm256 (a : Nat) : Int.tmod ((a : Nat) : Int) 256 = ((a % 256 : Nat) : Int) := tm_nat a 256
theorem td256 (a : Nat) : Int.tdiv ((a : Nat) : Int) 256 = ((a / 256 : Nat) : Int) := td_nat a 256
theorem td65536 (a : Nat) : Int.tdiv ((a : Nat) : Int) 65536 = ((a / 65536 : Nat) : Int) := td_nat a 65536
theorem td16777216 (a : Nat) : Int.tdiv ((a : Nat) : Int) 16777216 = ((a / 16777216 : Nat) : Int) := td_nat a 16777216

theorem k179 {w : World} {c : Nat} (hc : c < 4294967296) : Calls Pr 179 #[.int .u32 ((c : Nat) : Int)] w fun e w' => e = .returned (.int .u32 ((crcEntry c : Nat) : Int)) ∧ w' = w := by
  refine call179 ?_
  unfold ir179
  refine ⟨fun n σ w4 => ∃ i : Nat, i ≤ 8 ∧ n = 8 - i ∧ σ = ((i : Int), ((crcIt i c : Nat) : Int), ()) ∧ w4 = w, 8, ⟨0, by omega, rfl, rfl, rfl⟩, ?_⟩
  rintro n σ w4 ⟨i, hi, rfl, rfl, rfl⟩ _
  dsimp only
  have hlt := crcIt_lt hc i
  refine brc_intro (fun h' => ?_) (fun h' => ?_)
  · have h' : i < 8 := by simp at h'; omega
    refine ⟨by omega, ?_⟩
    rw [tm2, td2, wu32 (x := crcIt i c / 2) (by omega)]
    refine brc_intro (fun h1 => ?_) (fun h1 => ?_)
    · have h1 : crcIt i c % 2 = 1 := by simp at h1; omega
      refine ⟨by omega, 8 - (i + 1), by omega, i + 1, by omega, rfl, ?_, rfl⟩
      have := u32_xor (x := crcIt i c / 2) (y := 2197175160) (by omega) (by omega)
      have e2 : crcIt (i + 1) c = crcIt i c / 2 ^^^ 2197175160 := by
        show crcStep (crcIt i c) = _
        unfold crcStep
        rw [if_pos h1]
      rw [e2, ← this, w64 (by omega) (by omega)]
      rfl
    · have h1 : ¬ crcIt i c % 2 = 1 := by simp at h1; omega
      refine ⟨by omega, 8 - (i + 1), by omega, i + 1, by omega, rfl, ?_, rfl⟩
      have e2 : crcIt (i + 1) c = crcIt i c / 2 := by
        show crcStep (crcIt i c) = _
        unfold crcStep
        rw [if_neg h1]
      rw [e2, w64 (by omega) (by omega)]
      rfl
  · have h' : i = 8 := by simp at h'; omega
    subst h'
    exact ⟨rfl, rfl⟩

theorem k162 {E w : World} {L : List Chunk} {s : SV} {l : List UInt8} (hS : Sep E w L) (hr : RdB L s l) (hb : l.length ≤ 1099511627776) :
    Calls Pr 162 #[.int .u32 0, .slice s.a s.len s.cap] w fun e w' => e = .returned (.int .u32 ((crcSum l : Nat) : Int)) ∧ w' = w := by
  refine call162 ?_
  unfold ir162
  have hsz := hr.size
  refine ⟨fun n σ w4 => ∃ k : Nat, k ≤ l.length ∧ n = l.length - k ∧ σ = ((k : Int), (((l.take k).foldl crcOne (4294967295 ^^^ 0) : Nat) : Int), ()) ∧ w4 = w, l.length, ⟨0, by omega, rfl, ?_, rfl⟩, ?_⟩
  · have := u32_xor (x := 4294967295) (y := 0) (by omega) (by omega)
    simp only [List.take_zero, List.foldl_nil]
    rw [← this]
    rfl
  rintro n σ w4 ⟨k, hk, rfl, rfl, rfl⟩ _
  dsimp only
  have hlt := crcFold_lt (l.take k) (c := 4294967295 ^^^ 0) (by decide)
  generalize hcc : (l.take k).foldl crcOne (4294967295 ^^^ 0) = c at hlt
  refine brc_intro (fun h => ?_) (fun h => ?_)
  · have h : k < l.length := by simp at h; omega
    refine ⟨⟨by omega, by omega⟩, ?_⟩
    obtain ⟨a, ha, hat⟩ := hr.idx (i := k) (v := byteV l[k]) (by simp [h]) hS (fun c hc => hc) (t := 5) (by kernel_rfl)
    rw [ha]
    refine ⟨((l[k].toNat : Nat) : Int), by simpa [byteV] using hat, by omega, ?_⟩
    have hlb := l[k].toNat_lt
    rw [wu32 (x := l[k].toNat) (by omega), u32_xor hlt (by omega), tm256]
    refine (k179 (by omega)).mono ?_
    rintro _ w5 ⟨rfl, rfl⟩
    refine ⟨((crcEntry ((c ^^^ l[k].toNat) % 256) : Nat) : Int), rfl, by omega, l.length - (k + 1), by omega, k + 1, by omega, rfl, ?_, rfl⟩
    rw [w64 (by omega) (by omega), td256, wu32 (x := c / 256) (by omega), u32_xor (crcEntry_lt (by omega)) (by omega)]
    have ht : l.take (k + 1) = l.take k ++ [l[k]] := by rw [List.take_add_one]; simp [h]
    rw [ht, List.foldl_append, hcc]
    rfl
  · have h : k = l.length := by simp at h; omega
    subst h
    have := u32_xor (x := 4294967295) (y := c) (by omega) hlt
    rw [List.take_length] at hcc
    refine ⟨?_, rfl⟩
    have e : crcSum l = 4294967295 ^^^ c := by rw [← hcc]; rfl
    rw [e, ← this]
    rfl

theorem k150 {E w : World} {L : List Chunk} {s : SV} {l : List UInt8} (hS : Sep E w L) (hr : RdB L s l) (hb : l.length ≤ 1099511627776) :
    Calls Pr 150 #[.slice s.a s.len s.cap] w fun e w' => e = .returned (.int .u32 ((crcSum l : Nat) : Int)) ∧ w' = w := by
  refine call150 ?_
  unfold ir150
  refine (k162 hS hr hb).mono ?_
  rintro _ w1 ⟨rfl, rfl⟩
  exact ⟨_, rfl, rfl, rfl⟩

theorem u8m {x y : Nat} (h : x % 256 = y % 256) : UInt8.ofNat x = UInt8.ofNat y := by
  apply UInt8.toNat_inj.1
  rw [UInt8.toNat_ofNat', UInt8.toNat_ofNat']
  exact h

/-- creelref03.Seal. -/
theorem k128 {E w : World} {L : List Chunk} {s : SV} {l : List UInt8} (hS : Sep E w L) (hr : RdB L s l) (hb : l.length ≤ 1000000000000) :
    Calls Pr 128 #[.slice s.a s.len s.cap] w fun e w' => ∃ (s' : SV) (C : List Chunk), e = .returned (.slice s'.a s'.len s'.cap) ∧ RdB C s' (sealL l) ∧ Sep E w' (C ++ L) := by
  refine call128 ?_
  unfold ir128
  refine (k150 hS hr (by omega)).mono ?_
  rintro _ w1 ⟨rfl, rfl⟩
  refine ⟨_, rfl, ?_⟩
  obtain ⟨s1, w2, h2, s2, w3, C, h3, ho, hS3⟩ := hS.clone hr (by omega) (ty := 26)
  refine ⟨s1, w2, h2, s2, w3, h3, by omega, by omega, by omega, by omega, by omega, by omega, ?_⟩
  have hlt := crcSum_lt l
  have hle : le4 (crcSum l) = [UInt8.ofNat (crcSum l % 256), UInt8.ofNat (crcSum l / 256 % 256), UInt8.ofNat (crcSum l / 65536 % 256), UInt8.ofNat (crcSum l / 16777216)] := by
    show [UInt8.ofNat (crcSum l / 256 ^ 0), UInt8.ofNat (crcSum l / 256 ^ 1), UInt8.ofNat (crcSum l / 256 ^ 2), UInt8.ofNat (crcSum l / 256 ^ 3)] = _
    rw [show (256 : Nat) ^ 0 = 1 by rfl, show (256 : Nat) ^ 1 = 256 by rfl, show (256 : Nat) ^ 2 = 65536 by rfl, show (256 : Nat) ^ 3 = 16777216 by rfl, u8m (x := crcSum l / 1) (y := crcSum l % 256) (by omega), u8m (x := crcSum l / 256) (y := crcSum l / 256 % 256) (by omega), u8m (x := crcSum l / 65536) (y := crcSum l / 65536 % 256) (by omega)]
  generalize hc : crcSum l = c at hlt hle
  rw [tm256, td256, td65536, td16777216, wu32 (x := c / 256) (by omega), wu32 (x := c / 65536) (by omega), wu32 (x := c / 16777216) (by omega), tm256, tm256, wu8, wu8, wu8, wu8]
  obtain ⟨s3, w4, C3, h4, ho3, hS4⟩ := hS3.litB (n := 4) (parts := [(0, .int .u8 ((c % 256 % 256 : Nat) : Int)), (1, .int .u8 ((c / 256 % 256 % 256 : Nat) : Int)), (2, .int .u8 ((c / 65536 % 256 % 256 : Nat) : Int)), (3, .int .u8 ((c / 16777216 % 256 : Nat) : Int))]) (l := [UInt8.ofNat (c % 256), UInt8.ofNat (c / 256 % 256), UInt8.ofNat (c / 65536 % 256), UInt8.ofNat (c / 16777216)]) rfl (by omega) (by
    simp only [List.map_cons, List.map_nil, byteV_ofNat]
    kernel_rfl)
  refine ⟨s3, w4, h4, ?_⟩
  have hS4' : Sep E w4 (C ++ (C3 ++ L)) := hS4.weak (by intro f; simp only [ms_append, ms_cons, ms_nil]; omega)
  obtain ⟨s4, w5, C4, h5, ho4, hS5⟩ := hS4'.appB (ty := 26) ho ((ho3.rdl L).right C) (by simp; omega)
  refine ⟨s4, w5, h5, s4, C4 ++ C3, rfl, ?_, by rw [List.append_assoc]; exact hS5⟩
  unfold sealL
  rw [hc, hle]
  exact ho4.rdl C3

/-- creelref01.Fix. -/
theorem k129 {E w : World} {L : List Chunk} {s : SV} {l : List UInt8} (hS : Sep E w L) (hr : RdB L s l) (hb : l.length ≤ 1099511627776) {n k : Nat} (hk : k ≤ 8) (hk0 : 0 < k) (hn : n < 18446744073709551616) :
    Calls Pr 129 #[.slice s.a s.len s.cap, .int .u64 ((n : Nat) : Int), .int .i64 ((k : Nat) : Int)] w fun e w' => ∃ (s' : SV) (C : List Chunk), e = .returned (.slice s'.a s'.len s'.cap) ∧ Own 5 1 s' ((l ++ bigE n k).map byteV) C ∧ Sep E w' (C ++ L) := by
  refine call129 ?_
  unfold ir129
  obtain ⟨s0, w0, h0, s1, w1, C, h1, ho, hS1⟩ := hS.clone hr (by omega) (ty := 26)
  refine ⟨s0, w0, h0, s1, w1, h1, brc_false (decide_eq_false (by omega)) (brc_false (decide_eq_false (by omega)) ?_)⟩
  refine ⟨fun r σ w2 => ∃ (m : Nat) (l' : List UInt8) (C : List Chunk), m ≤ k ∧ r = m ∧ l'.length ≤ l.length + 8 ∧ σ.1 = ((m : Nat) : Int) - 1 ∧ l' ++ bigE n m = l ++ bigE n k ∧ Own 5 1 σ.2.1 (l'.map byteV) C ∧ Sep E w2 (C ++ L), k, ⟨k, l, C, Nat.le_refl _, rfl, by omega, w64 (by omega) (by omega), rfl, ho, hS1⟩, ?_⟩
  rintro r ⟨i, s2, u⟩ w2 ⟨m, l', C, hm, hrm, hl', hi, he, ho, hS2⟩ _
  dsimp only at hi ho ⊢
  subst hi
  refine brc_intro (fun h => ?_) (fun h => ?_)
  · have h : 0 < m := by simp at h; omega
    obtain ⟨m, rfl⟩ : ∃ m', m = m' + 1 := ⟨m - 1, by omega⟩
    have e0 : (((m + 1 : Nat) : Int) - 1) = ((m : Nat) : Int) := by omega
    rw [e0]
    refine ⟨fun r σ w4 => ∃ i : Nat, i ≤ m ∧ r = m - i ∧ σ = ((i : Int), ((n / 256 ^ i : Nat) : Int), ()) ∧ w4 = w2, m, ⟨0, by omega, rfl, by simp, rfl⟩, ?_⟩
    rintro r' σ w4 ⟨i, hi, rfl, rfl, rfl⟩ _
    dsimp only
    have hle : n / 256 ^ i ≤ n := Nat.div_le_self _ _
    refine brc_intro (fun h' => ?_) (fun h' => ?_)
    · have h' : i < m := by simp at h'; omega
      refine ⟨by omega, m - (i + 1), by omega, i + 1, by omega, rfl, ?_, rfl⟩
      rw [td256, w64 (by omega) (by omega), Nat.div_div_eq_div_mul, ← Nat.pow_succ]
      have hle' : n / 256 ^ i.succ ≤ n := Nat.div_le_self _ _
      generalize hq : n / 256 ^ i.succ = q at hle'
      rw [IntKind.wrap_u64, Int.emod_eq_of_lt (by omega) (by omega), ← hq]
      rfl
    · have h' : i = m := by simp at h'; omega
      subst h'
      refine ⟨by omega, ?_⟩
      rw [tm256, wu8]
      obtain ⟨s3, w3, C3, h3, ho3, hS3⟩ := hS2.litB (n := 1) (parts := [(0, .int .u8 ((n / 256 ^ i % 256 % 256 : Nat) : Int))]) (l := [UInt8.ofNat (n / 256 ^ i)]) rfl (by omega) (by
        simp only [List.map_cons, List.map_nil, byteV_ofNat]
        rw [Nat.mod_mod]
        kernel_rfl)
      refine ⟨s3, w3, h3, ?_⟩
      have hS3' : Sep E w3 (C ++ (C3 ++ L)) := hS3.weak (by intro f; simp only [ms_append, ms_cons, ms_nil]; omega)
      have hlen : (l' ++ bigE n (i + 1)).length = (l ++ bigE n k).length := by rw [he]
      simp only [List.length_append, bigE_len] at hlen
      obtain ⟨s4, w4, C4, h4, ho4, hS4⟩ := hS3'.appB (ty := 26) ho ((ho3.rdl L).right C) (by simp; omega)
      refine ⟨s4, w4, h4, i, by omega, i, _, C4, by omega, rfl, ?_, ?_, ?_, ho4, hS4.weak (by intro f; simp only [ms_append, ms_cons, ms_nil]; omega)⟩
      · simp; omega
      · show IntKind.wrap .i64 (((i : Nat) : Int) - 1) = _
        rw [w64 (by omega) (by omega)]
      · rw [← he]
        simp [bigE]
  · have h : m = 0 := by simp at h; omega
    subst h
    have he : l' = l ++ bigE n k := by simpa [bigE] using he
    subst he
    exact ⟨s2, C, rfl, ho, hS2⟩

/-- creelref03.Put. -/
theorem k70 {E w : World} {L : List Chunk} {s x : SV} {l m : List UInt8} (hS : Sep E w L) (hs : RdB L s l) (hx : RdB L x m) (hb : l.length ≤ 1000000000000) (hm : m.length ≤ 4096) :
    Calls Pr 70 #[.slice s.a s.len s.cap, .slice x.a x.len x.cap] w fun e w' => ∃ (s' : SV) (C : List Chunk), e = .returned (.tuple #[.slice s'.a s'.len s'.cap, .int .i64 0]) ∧ RdB C s' (l ++ frameL m) ∧ Sep E w' (C ++ L) := by
  refine call70 ?_
  unfold ir70
  have hsz := hx.size
  refine brc_false (decide_eq_false (by omega)) ?_
  have hw : IntKind.wrap .u64 ((x.len : Nat) : Int) = ((m.length : Nat) : Int) := by rw [hsz, IntKind.wrap_u64]; omega
  rw [hw]
  refine (k129 (s := SV.nil) (l := []) hS (RdS.none L 1) (by simp) (n := m.length) (k := 4) (by omega) (by omega) (by omega)).mono ?_
  rintro _ w1 ⟨s1, C1, rfl, ho1, hS1⟩
  refine ⟨s1, rfl, ?_⟩
  obtain ⟨s2, w2, C2, h2, ho2, hS2⟩ := hS1.appB (ty := 26) ho1 (hx.right C1) (by simp [bigE_len]; omega)
  refine ⟨s2, w2, h2, (k128 hS2 (ho2.rdl L) (by simp [bigE_len]; omega)).mono ?_⟩
  rintro _ w3 ⟨s3, C3, rfl, hr3, hS3⟩
  refine ⟨s3, rfl, ?_⟩
  obtain ⟨s4, w4, h4, s5, w5, C5, h5, ho5, hS5⟩ := hS3.clone ((hs.right C2).right C3) (by omega) (ty := 26)
  refine ⟨s4, w4, h4, s5, w5, h5, ?_⟩
  have hlen : (sealL ([] ++ bigE m.length 4 ++ m)).length = m.length + 8 := by simp [sealL_len, bigE_len]; omega
  obtain ⟨s6, w6, C6, h6, ho6, hS6⟩ := hS5.appB (ty := 26) ho5 ((hr3.left _).right C5) (by rw [hlen]; omega)
  refine ⟨s6, w6, h6, s6, C6 ++ (C3 ++ C2), rfl, ?_, ?_⟩
  · exact ho6.rdl _
  · simp only [List.append_assoc]
    exact hS6

end Go.Proofs.Ytonjaaljnjjjcaa

/- Lists of lists of bytes: few, Same. Conditions: as each lemma says. -/
set_option linter.unusedVariables false
set_option linter.unusedSimpArgs false
namespace Go.Proofs.Ytonjaaljnjjjcaa
open Go Go.RowKit

/-- A slice of slices of bytes. -/
def RdL (I : List Chunk) (s : SV) (ls : List (List UInt8)) : Prop := ∃ ss : List SV, RdS I 1 s (ss.map slV) ∧ RdBs I ss ls

theorem RdL.mono {I I' : List Chunk} {s : SV} {ls : List (List UInt8)} (h : RdL I s ls) (hI : ∀ c ∈ I, c ∈ I') : RdL I' s ls := by
  obtain ⟨ss, h1, h2⟩ := h
  exact ⟨ss, h1.mono hI, h2.mono hI⟩
theorem RdL.size {I : List Chunk} {s : SV} {ls : List (List UInt8)} (h : RdL I s ls) : s.len = ls.length := by
  obtain ⟨ss, h1, h2⟩ := h
  rw [h1.len1, List.length_map, h2.1]
theorem RdL.right {I : List Chunk} {s : SV} {ls : List (List UInt8)} (h : RdL I s ls) (C : List Chunk) : RdL (C ++ I) s ls := h.mono fun c hc => List.mem_append_right _ hc
theorem RdL.none (I : List Chunk) : RdL I SV.nil [] := ⟨[], RdS.none I 1, RdBs.nil I⟩

/-- An element, read. -/
theorem RdL.idx {I : List Chunk} {s : SV} {ls : List (List UInt8)} (h : RdL I s ls) {k : Nat} (hk : k < ls.length) {E w : World} {L : List Chunk} (hS : Sep E w L) (hI : ∀ c ∈ I, c ∈ L) :
    ∃ a x, s.a = some a ∧ At Pr w (loadVar 26 (a.add (k * 1))) (.slice x.a x.len x.cap) ∧ RdB I x ls[k] := by
  obtain ⟨ss, h1, h2⟩ := h
  obtain ⟨x, l, hx, hl, hr, _⟩ := h2.at_ hk
  obtain ⟨a, ha, hat⟩ := h1.idx (i := k) (v := slV x) (by simp [hx]) hS hI (t := 26) (by kernel_rfl)
  have : l = ls[k] := by
    rw [List.getElem?_eq_getElem hk] at hl
    simpa using hl.symm
  subst this
  exact ⟨a, x, ha, hat, hr⟩

theorem RdS.idxU {I : List Chunk} {s : SV} {xs : List Value} (h : RdS I 1 s xs) {i : Nat} {v : Value} (hv : xs[i]? = some v) {t : TypeId} (ht : oneT Pr t = true) :
    ∃ a, s.a = some a ∧ ∀ {E w : World} {L : List Chunk}, Sep E w L → (∀ c ∈ I, c ∈ L) → At Pr w (loadVar t (a.add (i * 1))) v := by
  cases ha : s.a with
  | none =>
    have h0 := h.nil ha
    have h1 := h.len1
    have : i < xs.length := (List.getElem?_eq_some_iff.1 hv).1
    omega
  | some a =>
    refine ⟨a, rfl, fun hS hI => ?_⟩
    obtain ⟨b, hb, hat⟩ := h.idx hv hS hI ht
    have e : a = b := Option.some.inj (ha.symm.trans hb)
    rw [e]
    exact hat

/-- An element, read in whatever world. -/
theorem RdL.idxU {I : List Chunk} {s : SV} {ls : List (List UInt8)} (h : RdL I s ls) {k : Nat} (hk : k < ls.length) :
    ∃ a x, s.a = some a ∧ RdB I x ls[k] ∧ ∀ {E w : World} {L : List Chunk}, Sep E w L → (∀ c ∈ I, c ∈ L) → At Pr w (loadVar 26 (a.add (k * 1))) (.slice x.a x.len x.cap) := by
  obtain ⟨ss, h1, h2⟩ := h
  obtain ⟨x, l, hx, hl, hr, _⟩ := h2.at_ hk
  obtain ⟨a, ha, hat⟩ := h1.idxU (i := k) (v := slV x) (by simp [hx]) (t := 26) (by kernel_rfl)
  have : l = ls[k] := by
    rw [List.getElem?_eq_getElem hk] at hl
    simpa using hl.symm
  subst this
  exact ⟨a, x, ha, hr, hat⟩

/-- Lists of lists, owned. -/
structure OwnL (s : SV) (ss : List SV) (ls : List (List UInt8)) (C I : List Chunk) : Prop where
  own : Own 26 1 s (ss.map slV) C
  rds : RdBs I ss ls

theorem OwnL.size {s : SV} {ss : List SV} {ls : List (List UInt8)} {C I : List Chunk} (h : OwnL s ss ls C I) : s.len = ls.length := by
  rw [h.own.rds.len1, List.length_map, h.rds.1]
theorem OwnL.rdl {s : SV} {ss : List SV} {ls : List (List UInt8)} {C I : List Chunk} (h : OwnL s ss ls C I) : RdL (C ++ I) s ls := ⟨ss, h.own.rdl I, h.rds.mono fun c hc => List.mem_append_right _ hc⟩

/-- An element of an owned list of lists. -/
theorem OwnL.idxU {s : SV} {ss : List SV} {ls : List (List UInt8)} {C I : List Chunk} (h : OwnL s ss ls C I) {k : Nat} (hk : k < ls.length) :
    ∃ a x, s.a = some a ∧ RdB I x ls[k] ∧ ∀ {E w : World} {L : List Chunk}, Sep E w L → (∀ c ∈ C, c ∈ L) → At Pr w (loadVar 26 (a.add (k * 1))) (.slice x.a x.len x.cap) := by
  obtain ⟨x, l, hx, hl, hr, _⟩ := h.rds.at_ hk
  obtain ⟨a, ha, hat⟩ := h.own.rds.idxU (i := k) (v := slV x) (by simp [hx]) (t := 26) (by kernel_rfl)
  have : l = ls[k] := by
    rw [List.getElem?_eq_getElem hk] at hl
    simpa using hl.symm
  subst this
  exact ⟨a, x, ha, hr, hat⟩

/-- One more behind a list of lists. -/
theorem Sep.push1 {E w : World} {C L I : List Chunk} {s x : SV} {ss : List SV} {ls : List (List UInt8)} {l : List UInt8} (hS : Sep E w (C ++ L)) (ho : OwnL s ss ls C I) (hx : RdB I x l) (hb : ls.length ≤ 1000000000000) :
    ∃ (s2 : SV) (w2 : World), Sem.run Pr (Instr.buildSlice 22 1 #[(0, .slice x.a x.len x.cap)]) w = .ok (.slice s2.a s2.len s2.cap) w2 ∧
      ∃ (s3 : SV) (w3 : World) (C' G : List Chunk), Sem.run Pr (Builtin.append_ #[22, 22] 22 #[.slice s.a s.len s.cap, .slice s2.a s2.len s2.cap]) w2 = .ok (.slice s3.a s3.len s3.cap) w3 ∧ OwnL s3 (ss ++ [x]) (ls ++ [l]) C' I ∧ Sep E w3 (C' ++ (G ++ L)) := by
  obtain ⟨s2, w2, G, h2, ho2, hS2⟩ := hS.litBs (n := 1) (parts := [(0, .slice x.a x.len x.cap)]) (ss := [x]) rfl (by omega) (by kernel_rfl)
  have hS2' : Sep E w2 (C ++ (G ++ L)) := hS2.weak (by intro f; simp only [ms_append, ms_cons, ms_nil]; omega)
  have hl := ho.size
  have hl2 : s2.len = 1 := by
    have := ho2.rds.len1
    simpa using this
  obtain ⟨s3, w3, C', h3, ho3, _, hS3⟩ := Sep.append (ty := 22) tiBB hS2' ho.own (ho2.rds.src hS2' fun c hc => by simp [hc]) (slV_one [x]) (by rw [hl, hl2]; omega) (by rw [hl, hl2]; unfold maxLen; omega)
  exact ⟨s2, w2, h2, s3, w3, C', G, h3, ⟨by rw [List.map_append]; exact ho3, ho.rds.append ((RdBs.nil I).cons hx)⟩, hS3⟩

def fewL (ls : List (List UInt8)) : List (List UInt8) := (ls.take 60).filter fun l => decide (l.length ≤ 80)

theorem fewL_step {ls : List (List UInt8)} {k : Nat} (h : k < ls.length) : fewL (ls.take (k + 1)) = if k < 60 ∧ ls[k].length ≤ 80 then fewL (ls.take k) ++ [ls[k]] else fewL (ls.take k) := by
  unfold fewL
  have ht : ls.take (k + 1) = ls.take k ++ [ls[k]] := by rw [List.take_add_one]; simp [h]
  have hlen : (ls.take k).length = k := by simp; omega
  rw [ht]
  by_cases hk : k < 60
  · rw [List.take_of_length_le (l := ls.take k ++ [ls[k]]) (by simp; omega), List.take_of_length_le (l := ls.take k) (i := 60) (by omega), List.filter_append]
    by_cases hl : ls[k].length ≤ 80
    · simp [hk, hl]
    · simp [hl]
  · rw [List.take_append_of_le_length (by omega)]
    simp [hk]

/-- few. -/
theorem k61 {E w : World} {L I : List Chunk} {s : SV} {ls : List (List UInt8)} (hS : Sep E w L) (hr : RdL I s ls) (hI : ∀ c ∈ I, c ∈ L) (hb : ls.length ≤ 9223372036854775807) :
    Calls Pr 61 #[.slice s.a s.len s.cap] w fun e w' => ∃ (s' : SV) (ss : List SV) (C G : List Chunk), e = .returned (.slice s'.a s'.len s'.cap) ∧ OwnL s' ss (fewL ls) C I ∧ Sep E w' (C ++ (G ++ L)) := by
  refine call61 ?_
  unfold ir61
  have hsz := hr.size
  refine ⟨fun n σ w3 => ∃ (k : Nat) (ss : List SV) (C G : List Chunk), k ≤ ls.length ∧ n = ls.length - k ∧ σ.1 = (k : Int) ∧ OwnL σ.2.1 ss (fewL (ls.take k)) C I ∧ Sep E w3 (C ++ (G ++ L)), ls.length, ⟨0, [], [], [], Nat.zero_le _, rfl, rfl, ⟨Own.nil _ _, by simpa [fewL] using RdBs.nil I⟩, hS⟩, ?_⟩
  rintro n ⟨i, s3, u⟩ w3 ⟨k, ss, C, G, hk, rfl, hi, ho, hS3⟩ _
  dsimp only at hi ho ⊢
  subst hi
  refine brc_intro (fun h => ?_) (fun h => ?_)
  · have h : k < ls.length := by simp at h; omega
    obtain ⟨a, x, ha, hat, hrx⟩ := hr.idx h hS3 (fun c hc => by simp [hI c hc])
    have hxs := hrx.size
    have hf := fewL_step h
    have hw : IntKind.wrap .i64 ((k : Int) + 1) = ((k + 1 : Nat) : Int) := by rw [w64 (by omega) (by omega)]; omega
    rw [hw]
    refine ⟨⟨by omega, by omega⟩, ?_⟩
    rw [ha]
    refine ⟨x, by simpa using hat, brc_intro (fun h1 => ?_) (fun h1 => ?_)⟩
    · have h1 : k < 60 := by simp at h1; omega
      refine brc_intro (fun h2 => ?_) (fun h2 => ?_)
      · have h2 : ls[k].length ≤ 80 := by simp at h2; omega
        have hfl : (fewL (ls.take k)).length ≤ 60 := Nat.le_trans (List.length_filter_le _ _) (by simp; omega)
        obtain ⟨s4, w4, h4, s5, w5, C5, G5, h5, ho5, hS5⟩ := hS3.push1 ho hrx (by omega)
        refine ⟨s4, w4, h4, s5, w5, h5, ls.length - (k + 1), by omega, k + 1, ss ++ [x], C5, G5 ++ G, by omega, rfl, rfl, ?_, by rw [List.append_assoc]; exact hS5⟩
        rw [hf, if_pos ⟨h1, h2⟩]
        exact ho5
      · have h2 : ¬ ls[k].length ≤ 80 := by simp at h2; omega
        refine ⟨ls.length - (k + 1), by omega, k + 1, ss, C, G, by omega, rfl, rfl, ?_, hS3⟩
        rw [hf, if_neg fun e => h2 e.2]
        exact ho
    · have h1 : ¬ k < 60 := by simp at h1; omega
      refine ⟨ls.length - (k + 1), by omega, k + 1, ss, C, G, by omega, rfl, rfl, ?_, hS3⟩
      rw [hf, if_neg fun e => h1 e.1]
      exact ho
  · have h : k = ls.length := by simp at h; omega
    subst h
    rw [List.take_length] at ho
    exact ⟨s3, ss, C, G, rfl, ho, hS3⟩

end Go.Proofs.Ytonjaaljnjjjcaa

/- The program's disk: Names, Crash. Conditions: as each lemma says. -/
set_option linter.unusedVariables false
set_option linter.unusedSimpArgs false
namespace Go.Proofs.Ytonjaaljnjjjcaa
open Go Go.RowKit

/-- Names. -/
theorem k50 {E w : World} {L I : List Chunk} {M : MDisk} {D : DS} {d : Nat} (hl : M.left ≤ 9223372036854775807) (hS : Sep E w (D.chunks M d ++ L)) (hD : DRep D M I) (hn : M.now.length ≤ 1000000000000) :
    Calls Pr 50 #[.pointer (some ⟨d, 0, none⟩)] w fun e w' => ∃ (s : SV) (C : List Chunk), e = .returned (.tuple #[.slice s.a s.len s.cap, .int .i64 M.names.1]) ∧ RdS C 1 s (M.names.2.1.flatMap encK) ∧ DRep D M.names.2.2 I ∧ Sep E w' (D.chunks M.names.2.2 d ++ (C ++ L)) := by
  refine call50 ?_
  unfold ir50
  refine (k91 (L := _) hl hS).mono ?_
  rintro _ w1 ⟨rfl, hS1⟩
  have hS1 : Sep E w1 (D.chunks M.ready.2 d ++ L) := hS1
  have hD1 := hD.ready
  rw [MDisk.names_st]
  refine ⟨M.ready.1, rfl, brc_intro (fun h => ?_) (fun h => ?_)⟩
  · have h : M.ready.1 ≠ 0 := by simpa using h
    have hf : M.names = (M.ready.1, [], M.ready.2) := by simp [MDisk.names, h]
    rw [hf]
    exact ⟨SV.nil, [], rfl, RdS.none _ _, hD1, hS1⟩
  · have h : M.ready.1 = 0 := by simpa using h
    have hf : M.names = (0, M.ready.2.now.map (·.1), M.ready.2) := by simp [MDisk.names, h]
    rw [hf]
    refine ⟨some D.mn, hS1.load (o := 0) List.mem_cons_self rfl (by kernel_rfl), ?_⟩
    refine (k110 hS1 (List.mem_cons_of_mem _ List.mem_cons_self) hD1.now (by rw [(ready_same M).2.1]; exact hn)).mono ?_
    rintro _ w2 ⟨s, C, G, rfl, ho, hS2⟩
    exact ⟨s, rfl, s, C ++ G, rfl, ho.rds.left G, hD1, hS2.weak (by intro f; simp only [ms_append, ms_cons, ms_nil]; omega)⟩

theorem crash_num {len kept : Nat} (hk : kept ≤ len) (hl : len ≤ 1000000000000) (n2 : Int) :
    IntKind.wrap .i64 ((kept : Int) + (if (IntKind.wrap .i64 (((len : Nat) : Int) - (kept : Int))) < (if 0 > n2 then 0 else n2) then (IntKind.wrap .i64 (((len : Nat) : Int) - (kept : Int))) else (if 0 > n2 then 0 else n2))) = ((kept + min (max n2 0).toNat (len - kept) : Nat) : Int) := by
  have hw : IntKind.wrap .i64 (((len : Nat) : Int) - (kept : Int)) = ((len - kept : Nat) : Int) := by rw [w64 (by omega) (by omega)]; omega
  rw [hw]
  have e : (if ((len - kept : Nat) : Int) < (if 0 > n2 then 0 else n2) then ((len - kept : Nat) : Int) else (if 0 > n2 then 0 else n2)) = ((min (max n2 0).toNat (len - kept) : Nat) : Int) := by
    split <;> split at * <;> omega
  rw [e, w64 (by omega) (by omega)]
  omega

theorem chV_ok (bs : List Nat) : EncOk (chV bs) 3 := ⟨fun _ => rfl, fun c u hu => by simp [chV] at hu; rcases hu with rfl | rfl | rfl <;> rfl, by decide⟩

/-- How the names lie while they get new files, one by one. -/
structure CrashAt (bs nbs : List Nat) (nm : Names) (l : List (Ent ByteArray)) (c : Nat) : Prop where
  wf : MapWf l c
  get : ∀ j x, nm[j]? = some x → getE x.1 l = some (.pointer (if j < nbs.length then filePtr nbs j else filePtr bs x.2))
  none : ∀ k, (∀ x ∈ nm, x.1 ≠ k) → getE k l = none

theorem CrashAt.start {bs : List Nat} {nm : Names} {l : List (Ent ByteArray)} {c : Nat} (h : NameRep bs nm l c) : CrashAt bs [] nm l c :=
  ⟨h.wf, fun j x hx => by
    rw [h.get, findN_mem h.sorted (List.mem_of_getElem? hx)]
    simp, fun k hk => by
    rw [h.get, findN_none_of hk]
    rfl⟩

theorem names_inj {nm : Names} (hs : SortedN nm) {i j : Nat} {x y : ByteArray × Nat} (hx : nm[i]? = some x) (hy : nm[j]? = some y) (h : x.1 = y.1) : i = j := by
  obtain ⟨hi, rfl⟩ := List.getElem?_eq_some_iff.1 hx
  obtain ⟨hj, rfl⟩ := List.getElem?_eq_some_iff.1 hy
  rcases Nat.lt_trichotomy i j with hlt | rfl | hlt
  · exact absurd h (nlt_ne (List.pairwise_iff_getElem.1 hs i j hi hj hlt))
  · rfl
  · exact absurd h.symm (nlt_ne (List.pairwise_iff_getElem.1 hs j i hj hi hlt))

theorem CrashAt.step {bs nbs : List Nat} {nm : Names} {l : List (Ent ByteArray)} {c b : Nat} (h : CrashAt bs nbs nm l c) (hs : SortedN nm) {x : ByteArray × Nat} (hx : nm[nbs.length]? = some x) :
    CrashAt bs (nbs ++ [b]) nm (setE x.1 (.pointer (some ⟨b, 0, Option.none⟩)) c l) (if (getE x.1 l).isSome then c else c + 1) := by
  refine ⟨h.wf.set _ _, fun j y hy => ?_, fun k hk => ?_⟩
  · rw [getE_setE]
    by_cases he : y.1 = x.1
    · have hj := names_inj hs hy hx he
      rw [if_pos he, hj, if_pos (by simp)]
      simp [filePtr]
    · rw [if_neg he, h.get j y hy]
      congr 2
      have hne : j ≠ nbs.length := fun e => by
        rw [e, hx] at hy
        exact he (by rw [Option.some.inj hy])
      by_cases hlt : j < nbs.length
      · rw [if_pos hlt, if_pos (by simp; omega), filePtr_push _ _ _ hlt]
      · rw [if_neg hlt, if_neg (by simp; omega)]
  · rw [getE_setE, if_neg fun e => hk x (List.mem_of_getElem? hx) e.symm, h.none k hk]

theorem CrashAt.done {bs nbs : List Nat} {nm : Names} {l : List (Ent ByteArray)} {c : Nat} (h : CrashAt bs nbs nm l c) (hs : SortedN nm) (hn : nbs.length = nm.length) : NameRep nbs (MDisk.numbered 0 nm) l c := by
  have hsn := MDisk.numbered_sorted hs 0
  have hmem : ∀ k i, findN k (MDisk.numbered 0 nm) = some i → ∃ y, nm[i]? = some y ∧ y.1 = k := fun k i hf => by
    obtain ⟨j, hj⟩ := List.getElem?_of_mem (mem_of_findN hf)
    obtain ⟨h1, y, h2, h3⟩ := MDisk.numbered_get _ _ _ _ hj
    simp only [Nat.zero_add] at h1
    subst h1
    exact ⟨y, h2, h3⟩
  refine ⟨h.wf, fun k => ?_, fun k i hf => ?_, hsn⟩
  · cases hf : findN k (MDisk.numbered 0 nm) with
    | none =>
      rw [h.none k fun x hx e => ?_]
      · rfl
      · have : x.1 ∈ (MDisk.numbered 0 nm).map (·.1) := by
          rw [MDisk.numbered_fst]
          exact List.mem_map.2 ⟨x, hx, rfl⟩
        obtain ⟨y, hy, hye⟩ := List.mem_map.1 this
        have := findN_mem hsn hy
        rw [hye, e, hf] at this
        cases this
    | some i =>
      obtain ⟨y, hy, rfl⟩ := hmem k i hf
      have hi := (List.getElem?_eq_some_iff.1 hy).1
      rw [h.get i y hy, if_pos (by omega)]
      rfl
  · obtain ⟨y, hy, _⟩ := hmem k i hf
    have hi := (List.getElem?_eq_some_iff.1 hy).1
    omega

theorem crashed_get (M : MDisk) (ns : List Int) : ∀ (nm : Names) (i j : Nat) (x : ByteArray × Nat), nm[j]? = some x →
    (M.crashed ns i nm)[j]? = some ⟨(M.fileAt x.2).bytes.take ((M.fileAt x.2).kept + MDisk.leftOf ns (i + j) ((M.fileAt x.2).bytes.length - (M.fileAt x.2).kept)), (M.fileAt x.2).kept + MDisk.leftOf ns (i + j) ((M.fileAt x.2).bytes.length - (M.fileAt x.2).kept)⟩
  | [], i, j, x, h => by simp at h
  | y :: nm, i, 0, x, h => by
    simp at h
    subst h
    rfl
  | y :: nm, i, j + 1, x, h => by
    have := crashed_get M ns nm (i + 1) j x (by simpa using h)
    simp only [MDisk.crashed, List.getElem?_cons_succ, this]
    have e : i + 1 + j = i + (j + 1) := by omega
    rw [e]

theorem leftOf_at : ∀ {ns : List Int} {i : Nat} (hp : 0 < ns.length) (hm : i % ns.length < ns.length) (most : Nat), MDisk.leftOf ns i most = min (max ns[i % ns.length] 0).toNat most
  | [], i, hp, _, _ => by simp at hp
  | y :: ys, i, _, hm, most => by
    show min (max ((y :: ys).getD (i % (y :: ys).length) 0) 0).toNat most = _
    rw [List.getD_eq_getElem?_getD, List.getElem?_eq_getElem hm]
    rfl

theorem u170 : Pr.underlying 170 = some (.map 141 141) := by kernel_rfl

abbrev intV (n : Int) : Value := .int .i64 n

/-- Crash. -/
theorem k45 {E w : World} {L I : List Chunk} {M : MDisk} {D : DS} {d n b : Nat} (hS : Sep E w (D.chunks M d ++ L)) (hD : DRep D M I) (hI : ∀ c ∈ I, c ∈ L) (hg : M.Good) (hm : M.Small n b) (hn : n ≤ 1000000) (hb : b ≤ 1000000000)
    (n0 : Int) {sb : SV} {ns : List Int} (hr : RdS L 1 sb (ns.map intV)) :
    Calls Pr 45 #[.pointer (some ⟨d, 0, none⟩), .agg #[.int .i64 n0, .slice sb.a sb.len sb.cap]] w fun e w' => ∃ (D' : DS) (C : List Chunk), e = .returned (.int .i64 0) ∧ DRep D' (M.crash n0 ns) I ∧ Sep E w' (D'.chunks (M.crash n0 ns) d ++ (C ++ L)) := by
  refine call45 ?_
  unfold ir45
  obtain ⟨a1, w1, h1, hS1⟩ := hS.newVar (t := 63) (v := .agg #[intV n0, slV sb])
  refine ⟨_, w1, h1, brc_false rfl ?_⟩
  let wC : Chunk := (a1, .cells (Value.agg #[intV n0, slV sb]).cells 63 (0, 0))
  have hS1 : Sep E w1 (wC :: (D.chunks M d ++ L)) := hS1
  refine ⟨some D.mq, hS1.load (b := d) (o := 1) (List.mem_cons_of_mem _ List.mem_cons_self) rfl (by kernel_rfl), ?_⟩
  refine (k108 hS1 (l := D.lk) (c := D.ck) (by simp [DS.chunks])).mono ?_
  rintro _ w2 ⟨m2, rfl, hS2⟩
  let F : List Chunk := wC :: (D.chunks M d ++ L)
  have hS2 : Sep E w2 (strM m2 D.lk D.ck :: F) := hS2
  have md : dChunk M d D.mn D.mq D.cs ∈ F := by simp [F, DS.chunks]
  have mw : wC ∈ F := List.mem_cons_self
  refine ⟨some m2, rfl, fun w => Sep E w F, hS2.drew.weak (by intro f; simp only [ms_append, ms_cons, ms_nil]; omega), ?_⟩
  refine ⟨D.cs, fun w hw => hw.load (b := d) (o := 2) md rfl (by kernel_rfl), n0, fun w hw => hw.load (b := a1) (o := 0) mw rfl (by kernel_rfl), D.cs, fun w hw => hw.load (b := d) (o := 2) md rfl (by kernel_rfl), ?_⟩
  have hcl : D.cs.len = M.changes.length := RdG.size (chV_ok D.bs) hD.own.rds
  have hcc := hD.own.rds.cap
  have hnm := hm.names
  have hk0 : (if ((D.cs.len : Nat) : Int) < (if 0 > n0 then 0 else n0) then ((D.cs.len : Nat) : Int) else (if 0 > n0 then 0 else n0)) = (((M.changes.take n0.toNat).length : Nat) : Int) := by
    rw [hcl, List.length_take]
    split <;> split at * <;> omega
  rw [hk0]
  simp only [Int.toNat_natCast, Nat.sub_zero]
  have hkl : (M.changes.take n0.toNat).length ≤ M.changes.length := by rw [List.length_take]; omega
  refine ⟨⟨by omega, by omega⟩, ?_⟩
  generalize hts : M.changes.take n0.toNat = tch at hkl
  rw [cutAt_zero]
  -- the changes, one by one
  refine ⟨fun k σ w3 => ∃ (j : Nat) (l : List (Ent ByteArray)) (c : Nat) (G : List Chunk), j ≤ tch.length ∧ k = tch.length - j ∧ σ = ((j : Int), ()) ∧ NameRep D.bs ((tch.take j).foldl doN M.kept) l c ∧ Sep E w3 (strM m2 l c :: (G ++ F)), tch.length, ⟨0, D.lk, D.ck, [], Nat.zero_le _, rfl, rfl, hD.kept, hS2.drew⟩, ?_⟩
  rintro k σ w3 ⟨j, l, c, G, hj, rfl, rfl, hnr, hS3⟩ _
  dsimp only
  refine brc_intro (fun h => ?_) (fun h => ?_)
  · have h : j < tch.length := by simp at h; omega
    refine ⟨⟨by omega, by omega⟩, ?_⟩
    have hxj : M.changes[j]? = some tch[j] := by
      have h1 : tch[j]? = some tch[j] := List.getElem?_eq_getElem h
      have h2 : (M.changes.take n0.toNat)[j]? = some tch[j] := by rw [hts]; exact h1
      rw [List.getElem?_take] at h2
      split at h2
      · exact h2
      · cases h2
    obtain ⟨a, ha, hat, _⟩ := RdG.at_ (chV_ok D.bs) hD.own.rds hxj
    rw [ha]
    have hxm : tch[j] ∈ M.changes := List.mem_of_getElem? hxj
    have htj : tch[j]? = some tch[j] := List.getElem?_eq_getElem h
    generalize tch[j] = x at *
    generalize hp : (if x.new = noName then none else filePtr D.bs x.file) = p
    have hch : chV D.bs x = [.string x.gone, .string x.new, .pointer p] := by simp [chV, hp]
    refine ⟨x.gone, x.new, p, ?_, ?_⟩
    · have := hat (t := 153) (by kernel_rfl) (by kernel_rfl) hS3 (fun c hc => by simp [F, DS.chunks, hc])
      rw [hch] at this
      exact this
    obtain ⟨a6, w4, h4, hS4⟩ := hS3.alloc (t := 153) z153
    refine ⟨_, w4, h4, ?_⟩
    obtain ⟨w5, h5, hS5⟩ := Sep.store (cs := [.string ByteArray.empty, .string ByteArray.empty, .pointer none]) (o := 0) (n := 3) (v := .agg #[.string x.gone, .string x.new, .pointer p]) (t := 153) hS4 (by kernel_rfl) rfl (by simp) (by simp [Value.cells, Value.oneCell'])
    have hS5 : Sep E w5 ((a6, .cells [.string x.gone, .string x.new, .pointer p].toArray 153 (0, 0)) :: strM m2 l c :: (G ++ F)) := hS5
    refine ⟨w5, h5, x.gone, x.new, p, hS5.loadS (o := 0) (n := 3) List.mem_cons_self (by kernel_rfl) (by kernel_rfl) rfl (by simp), ?_⟩
    have hS5' : Sep E w5 (strM m2 l c :: ((a6, .cells [.string x.gone, .string x.new, .pointer p].toArray 153 (0, 0)) :: (G ++ F))) := hS5.weak (by intro f; simp only [ms_append, ms_cons, ms_nil]; omega)
    refine (k109 hS5' hnr.wf).mono ?_
    rintro _ w6 ⟨l', c', C6, rfl, hwf, hS6, hget⟩
    refine ⟨rfl, tch.length - (j + 1), by omega, j + 1, l', c', C6 ++ (a6, .cells [.string x.gone, .string x.new, .pointer p].toArray 153 (0, 0)) :: G, by omega, rfl, by rw [w64 (by omega) (by omega)]; rfl, ?_, hS6.weak (by intro f; simp only [ms_append, ms_cons, ms_nil]; omega)⟩
    have hst := hnr.step (x := x) hwf (fun hn => hD.chOk x hxm hn) (by rw [hp]; exact hget)
    have htk : tch.take (j + 1) = tch.take j ++ [x] := by rw [List.take_add_one, htj]; rfl
    rw [htk, List.foldl_append]
    exact hst
  have h : j = tch.length := by simp at h; omega
  subst h
  rw [List.take_length] at hnr
  have hnm' : tch.foldl doN M.kept = M.left_ n0 := by rw [← hts]; rfl
  rw [hnm'] at hnr
  have hlB := hg.leftB n0
  have hlS := hg.leftS n0
  have hll := MDisk.left_len M n0
  generalize hnm : M.left_ n0 = nm at *
  refine (k110 hS3 (l := l) (c := c) List.mem_cons_self hnr (by omega)).mono ?_
  rintro _ w7 ⟨s3, C7, G7, rfl, ho7, hS7⟩
  refine ⟨s3, rfl, ?_⟩
  have h3l : s3.len = nm.length := by
    have := RdG.size encK_ok ho7.rds
    simpa using this
  have hbl := bs_len hD
  have hFL : ∀ c ∈ L, c ∈ F := fun c hc => by simp [F, hc]
  -- the names, one by one
  refine ⟨fun k σ w => ∃ (i : Nat) (nfs : List FRec) (l : List (Ent ByteArray)) (c : Nat) (G2 : List Chunk), i ≤ nm.length ∧ k = nm.length - i ∧ σ = ((i : Int), ()) ∧ nfs.length = i ∧ nfs.map (·.f) = (M.crashed ns 0 nm).take i ∧ (∀ r ∈ nfs, RdB I r.s r.f.bytes) ∧ CrashAt D.bs (nfs.map (·.b)) nm l c ∧
    Sep E w (strM m2 l c :: (nfs.map fChunk ++ (C7 ++ (G2 ++ F)))), nm.length, ⟨0, [], l, c, G7 ++ G, Nat.zero_le _, rfl, rfl, rfl, rfl, (fun r hr => by cases hr), CrashAt.start hnr, hS7.weak (by intro f; simp only [List.map_nil, ms_append, ms_cons, ms_nil]; omega)⟩, ?_⟩
  rintro k σ w8 ⟨i, nfs, l, c, G2, hi, rfl, rfl, hnl, hnf, hnr2, hca, hS8⟩ _
  dsimp only
  refine brc_intro (fun h => ?_) (fun h => ?_)
  · have h : i < nm.length := by simp at h; omega
    refine ⟨⟨by omega, by omega⟩, ?_⟩
    have hxi : nm[i]? = some nm[i] := List.getElem?_eq_getElem h
    obtain ⟨a7, ha7, _, hat7⟩ := RdG.at_ encK_ok ho7.rds (i := i) (x := nm[i].1) (by rw [List.getElem?_map, hxi]; rfl)
    have hcx := crashed_get M ns nm 0 i nm[i] hxi
    rw [Nat.zero_add] at hcx
    generalize nm[i] = x at *
    rw [ha7]
    have hn7 := hat7 (j := 0) (v := .string x.1) (t := 9) rfl (by kernel_rfl) hS8 (fun c hc => by simp [hc])
    rw [addA, Nat.add_zero] at hn7
    refine ⟨x.1, hn7, ?_⟩
    have hge := hca.get i x hxi
    rw [if_neg (by simp [hnl])] at hge
    have hxb : x.2 < D.bs.length := by rw [hbl]; exact hlB x (List.mem_of_getElem? hxi)
    obtain ⟨A, r, B, hfs, _, hfp, hfa, hrm⟩ := hD.file hxb
    rw [hfp] at hge
    have hlk := hS8.lookup (mt := 137) (m := m2) (l := l) (c := c) List.mem_cons_self u137 z141 (keyOk_str u9 w8 l x.1)
    rw [hge] at hlk
    refine ⟨some ⟨r.b, 0, none⟩, hlk, ?_⟩
    rw [hfa] at hcx
    have hrf : r.f ∈ M.files := by rw [← hD.files]; exact List.mem_map.2 ⟨r, hrm, rfl⟩
    have hkf := hg.keptF r.f hrf
    have hbf := hm.each r.f hrf
    have hrr := hD.bytes r hrm
    have hrl := hrr.size
    have hrc := hrr.cap
    let LL : List Chunk := strM m2 l c :: (nfs.map fChunk ++ (C7 ++ (G2 ++ F)))
    have mF : ∀ c ∈ F, c ∈ LL := fun c hc => by simp [LL, hc]
    have mr : fChunk r ∈ LL := mF _ (by
      have : fChunk r ∈ D.fs.map fChunk := List.mem_map.2 ⟨r, hrm, rfl⟩
      simp only [F, DS.chunks, List.mem_cons, List.mem_append]
      exact .inr (.inl (.inr (.inr (.inr (.inr this))))))
    have ldw : ∀ w, Sep E w LL → At Pr w (loadVar 61 (Addr.add ⟨a1, 0, none⟩ 1)) (.slice sb.a sb.len sb.cap) := fun w hw => hw.load (b := a1) (o := 1) (mF _ mw) rfl (by kernel_rfl)
    have ld0 : ∀ w, Sep E w LL → At Pr w (loadVar 26 (Addr.add ⟨r.b, 0, none⟩ 0)) (.slice r.s.a r.s.len r.s.cap) := fun w hw => hw.load (b := r.b) (o := 0) mr rfl (by kernel_rfl)
    have ld1 : ∀ w, Sep E w LL → At Pr w (loadVar 3 (Addr.add ⟨r.b, 0, none⟩ 1)) (.int .i64 (r.f.kept : Int)) := fun w hw => hw.load (b := r.b) (o := 1) mr rfl (by kernel_rfl)
    have hsn := hr.len1
    rw [List.length_map] at hsn
    refine ⟨sb, ldw _ hS8, ?_⟩
    -- a file, put in its place
    have fin : ∀ (w : World) (nn : Nat), Sep E w LL → nn = r.f.kept + MDisk.leftOf ns i (r.f.bytes.length - r.f.kept) → nn ≤ r.s.len →
        ∃ (a13 : Addr) (w9 : World), Sem.run Pr (Instr.box 146 (.agg #[(.slice (cutAt r.s.a 0 nn 1) (nn - 0) (nn - 0)), (.int .i64 (nn : Int))])) w = .ok (.pointer (some a13)) w9 ∧
          ∃ (w10 : World), Sem.run Pr (Instr.mapUpdate 137 (.map (some m2)) (.string x.1) (.pointer (some a13))) w9 = .ok () w10 ∧
            ∃ n', n' < nm.length - i ∧ ∃ (i' : Nat) (nfs : List FRec) (l : List (Ent ByteArray)) (c : Nat) (G2 : List Chunk), i' ≤ nm.length ∧ n' = nm.length - i' ∧ (IntKind.wrap .i64 ((i : Int) + 1), ()) = ((i' : Int), ()) ∧ nfs.length = i' ∧ nfs.map (·.f) = (M.crashed ns 0 nm).take i' ∧ (∀ r ∈ nfs, RdB I r.s r.f.bytes) ∧ CrashAt D.bs (nfs.map (·.b)) nm l c ∧
              Sep E w10 (strM m2 l c :: (nfs.map fChunk ++ (C7 ++ (G2 ++ F)))) := by
      intro w nn hSw hnn hle
      obtain ⟨nb, w9, h9, hS9⟩ := hSw.newVar (t := 146) (v := .agg #[(.slice (cutAt r.s.a 0 nn 1) (nn - 0) (nn - 0)), (.int .i64 (nn : Int))])
      refine ⟨_, w9, h9, ?_⟩
      let nr : FRec := ⟨nb, ⟨cutAt r.s.a 0 nn 1, nn - 0, nn - 0⟩, ⟨r.f.bytes.take nn, nn⟩⟩
      have hS9' : Sep E w9 (strM m2 l c :: (fChunk nr :: (nfs.map fChunk ++ (C7 ++ (G2 ++ F))))) := Sep.weak (L := fChunk nr :: LL) hS9 (by
        intro f
        simp only [LL, ms_append, ms_cons, ms_nil]
        omega)
      obtain ⟨w10, h10, hS10⟩ := hS9'.mapUpdate (mt := 137) u137 (.pointer (some ⟨nb, 0, none⟩)) (keyOk_str u9 w9 l x.1)
      refine ⟨w10, h10, nm.length - (i + 1), by omega, i + 1, nfs ++ [nr], setE x.1 (.pointer (some ⟨nb, 0, none⟩)) c l, (if (getE x.1 l).isSome then c else c + 1), G2, by omega, rfl, by rw [w64 (by omega) (by omega)]; rfl, by simp [hnl], ?_, fun r' hr' => ?_, ?_, Sep.weak (L := strM m2 (setE x.1 (.pointer (some ⟨nb, 0, none⟩)) c l) (if (getE x.1 l).isSome then c else c + 1) :: (fChunk nr :: (nfs.map fChunk ++ (C7 ++ (G2 ++ F))))) hS10 (by
        rw [List.map_append]
        intro f
        simp only [ms_append, ms_cons, ms_nil, List.map_cons, List.map_nil]
        omega)⟩
      · rw [List.map_append, hnf, List.take_add_one, hcx, ← hnn]
        rfl
      · rcases List.mem_append.1 hr' with hr' | hr'
        · exact hnr2 r' hr'
        · rw [List.mem_singleton] at hr'
          subst hr'
          have := hrr.cut (l := 0) (h := nn) (m := nn) (by omega) hle (Nat.le_refl _) (by omega)
          rw [List.drop_zero] at this
          exact this
      · rw [List.map_append]
        have hx' : nm[(nfs.map (·.b)).length]? = some x := by rw [List.length_map, hnl]; exact hxi
        exact hca.step hlS hx'
    refine brc_intro (fun hp => ?_) (fun hp => ?_)
    · have hp : 0 < ns.length := by simp at hp; omega
      have hmod := Nat.mod_lt i hp
      refine ⟨fun w => Sep E w LL, hS8.drew, sb, fun w hw => ldw w hw, sb, fun w hw => ldw w hw, by omega, ?_⟩
      have htm : Int.tmod (i : Int) ((sb.len : Nat) : Int) = ((i % ns.length : Nat) : Int) := by rw [hsn]; exact (Int.ofNat_tmod i ns.length).symm
      rw [htm]
      refine ⟨⟨by omega, by omega⟩, ?_⟩
      have hni : ns[i % ns.length]? = some ns[i % ns.length] := List.getElem?_eq_getElem hmod
      obtain ⟨a8, ha8, hat8⟩ := hr.idxU (i := i % ns.length) (v := intV ns[i % ns.length]) (by rw [List.getElem?_map, hni]; rfl) (t := 3) (by kernel_rfl)
      rw [ha8]
      refine ⟨ns[i % ns.length], fun w hw => hat8 hw (fun c hc => mF c (hFL c hc)), r.s, fun w hw => ld0 w hw, (r.f.kept : Int), fun w hw => ld1 w hw, (r.f.kept : Int), ld1 _ hS8.drew, r.s, ld0 _ hS8.drew, ?_⟩
      have hlo : MDisk.leftOf ns i (r.f.bytes.length - r.f.kept) = min (max ns[i % ns.length] 0).toNat (r.f.bytes.length - r.f.kept) := leftOf_at hp hmod _
      rw [hrl, crash_num hkf (by omega), ← hlo]
      simp only [Int.toNat_natCast]
      have hle := MDisk.leftOf_le ns i (r.f.bytes.length - r.f.kept)
      refine ⟨⟨by omega, by omega⟩, ⟨by omega, by omega⟩, fin _ _ hS8.drew rfl (by omega)⟩
    · have hp : ns = [] := List.eq_nil_of_length_eq_zero (by simp at hp; omega)
      have hlo : MDisk.leftOf ns i (r.f.bytes.length - r.f.kept) = 0 := by rw [hp]; rfl
      have hw : IntKind.wrap .i64 ((r.f.kept : Int) + 0) = ((r.f.kept : Nat) : Int) := by rw [w64 (by omega) (by omega)]; omega
      refine ⟨(r.f.kept : Int), ld1 _ hS8, r.s, ld0 _ hS8, ?_⟩
      rw [hw]
      simp only [Int.toNat_natCast]
      exact ⟨⟨by omega, by omega⟩, ⟨by omega, by omega⟩, fin _ _ hS8 (by rw [hlo]; rfl) (by omega)⟩
  -- the end
  have h : i = nm.length := by simp at h; omega
  have hnr3 := hca.done hlS (by simp [hnl, h])
  refine ⟨fun w => Sep E w F, hS8.drew.weak (by intro f; simp only [ms_append, ms_cons, ms_nil]; omega), (M.room : Int), fun w hw => hw.load (b := d) (o := 3) md rfl (by kernel_rfl), ?_⟩
  refine (k108 hS8.drew (l := l) (c := c) List.mem_cons_self).mono ?_
  rintro _ w13 ⟨m3, rfl, hS13⟩
  refine ⟨some m3, rfl, fun w => Sep E w F, fun w hw => hw, hS13.weak (by intro f; simp only [ms_append, ms_cons, ms_nil]; omega), ?_⟩
  have hS13' : Sep E w13 (dChunk M d D.mn D.mq D.cs :: (strM m3 l c :: strM m2 l c :: (nfs.map fChunk ++ (C7 ++ (G2 ++ (wC :: (strM D.mn D.ln D.cn :: strM D.mq D.lk D.ck :: (D.CC ++ D.fs.map fChunk) ++ L))))))) := hS13.weak (by
    intro f
    simp only [F, DS.chunks, ms_append, ms_cons, ms_nil, List.cons_append]
    omega)
  obtain ⟨w14, h14, hS14⟩ := Sep.store (cs := [.map (some D.mn), .map (some D.mq), slV D.cs, .int .i64 (M.room : Int), .bool M.down, .bool M.doomed, .int .i64 (M.left : Int)]) (o := 0) (n := 7) (v := .agg #[.map (some m2), .map (some m3), .slice none 0 0, .int .i64 (M.room : Int), .bool false, .bool false, .int .i64 0]) (t := 140) hS13' (by kernel_rfl) rfl (by simp) (by simp [Value.cells, Value.oneCell'])
  refine ⟨w14, h14, fun _ => True, trivial, ?_⟩
  have hcr : M.crash n0 ns = ⟨M.crashed ns 0 nm, MDisk.numbered 0 nm, MDisk.numbered 0 nm, [], M.room, false, false, 0⟩ := by rw [← hnm]; rfl
  let D' : DS := ⟨nfs, m2, m3, l, l, c, c, SV.nil, []⟩
  refine ⟨D', C7 ++ (G2 ++ (wC :: (strM D.mn D.ln D.cn :: strM D.mq D.lk D.ck :: (D.CC ++ D.fs.map fChunk)))), by trivial, ?_, ?_⟩
  · rw [hcr]
    refine ⟨?_, hnr2, hnr3, hnr3, Own.nil _ _, fun c hc => by cases hc⟩
    rw [hnf, h, List.take_of_length_le (by rw [MDisk.crashed_len]; exact Nat.le_refl _)]
  · have : Sep E w14 (dChunk (M.crash n0 ns) d m2 m3 SV.nil :: (strM m3 l c :: strM m2 l c :: (nfs.map fChunk ++ (C7 ++ (G2 ++ (wC :: (strM D.mn D.ln D.cn :: strM D.mq D.lk D.ck :: (D.CC ++ D.fs.map fChunk) ++ L))))))) := hS14
    exact this.weak (by
      intro f
      simp only [D', DS.chunks, ms_append, ms_cons, ms_nil, List.cons_append]
      omega)

end Go.Proofs.Ytonjaaljnjjjcaa

/- The program's disk: what a clone owns. Conditions: as each lemma says. -/
set_option linter.unusedVariables false
set_option linter.unusedSimpArgs false
namespace Go.Proofs.Ytonjaaljnjjjcaa
open Go Go.RowKit

/-! ### Keys that are pointers, or nil -/
def kvO (o : Option Nat) : Value := .pointer (o.map fun b => ⟨b, 0, none⟩)
def PlainO (w : World) (o : Option Nat) : Prop := ∀ b, o = some b → Plain w b

theorem run_equal_optr {w : World} {pt e : TypeId} {n : Nat} (hu : Pr.underlying pt = some (.pointer e)) (hs : sizeOf? Pr e = some (n + 1)) {a b : Option Nat} (ha : PlainO w a) (hb : PlainO w b) :
    (Op.equal pt (kvO a) (kvO b)).run Pr w = .ok (decide (a = b)) w := by
  cases a with
  | none =>
    cases b with
    | none =>
      have h : ∀ d, (Op.equalIn (d + 1) pt (kvO none) (kvO none)).run Pr w = .ok true w := fun d => by
        simp only [Op.equalIn, kvO, Sem.run_bind, run_underlying hu, Result.andThen_ok, run_sizeOf_of hs, Option.map_none]
        rfl
      exact h 9999
    | some b =>
      have h : ∀ d, (Op.equalIn (d + 1) pt (kvO none) (kvO (some b))).run Pr w = .ok false w := fun d => by
        simp only [Op.equalIn, kvO, Sem.run_bind, run_underlying hu, Result.andThen_ok, run_sizeOf_of hs, Option.map_none, Option.map_some]
        rfl
      exact h 9999
  | some a =>
    cases b with
    | none =>
      have h : ∀ d, (Op.equalIn (d + 1) pt (kvO (some a)) (kvO none)).run Pr w = .ok false w := fun d => by
        simp only [Op.equalIn, kvO, Sem.run_bind, run_underlying hu, Result.andThen_ok, run_sizeOf_of hs, Option.map_none, Option.map_some]
        rfl
      exact h 9999
    | some b =>
      have := run_equal_ptr hu hs (ha a rfl) (hb b rfl)
      simpa [kvO, ptrV] using this

theorem findAsking_optr {w : World} {pt e : TypeId} {n : Nat} (hu : Pr.underlying pt = some (.pointer e)) (hs : sizeOf? Pr e = some (n + 1)) {k : Option Nat} (hk : PlainO w k) :
    ∀ (l : List (Ent (Option Nat))) (i : Nat), (∀ x ∈ l, PlainO w x.k) → (Instr.findAsking pt (kvO k) (l.map (Ent.me kvO)) i).run Pr w = .ok (lookE k l i) w
  | [], i, _ => by simp [Instr.findAsking, lookE]
  | x :: l, i, hl => by
    rw [List.map_cons]
    unfold Instr.findAsking lookE
    simp only [Ent.me, Sem.run_bind, run_equal_optr hu hs hk (hl x List.mem_cons_self), Result.andThen_ok]
    by_cases h : x.k = k
    · rw [if_pos h]
      simp [h]
    · rw [if_neg h]
      have h' : ¬ k = x.k := fun e => h e.symm
      simp only [h', decide_false, Bool.false_eq_true, if_false]
      exact findAsking_optr hu hs hk l (i + 1) fun y hy => hl y (List.mem_cons_of_mem _ hy)

theorem keyOk_optr {w : World} {pt e : TypeId} {n : Nat} (hu : Pr.underlying pt = some (.pointer e)) (hs : sizeOf? Pr e = some (n + 1)) {k : Option Nat} {l : List (Ent (Option Nat))} (hk : PlainO w k) (hl : ∀ x ∈ l, PlainO w x.k) : KeyOk Pr pt kvO w l k := by
  refine ⟨?_, fun em => ?_, ?_⟩
  · simp only [Instr.findKey, Sem.run_bind, run_underlying hu, Result.andThen_ok]
    cases l with
    | nil => rfl
    | cons x l =>
      have h0 : Instr.findNow (.pointer e) (kvO k) ((x :: l).map (Ent.me kvO)) 0 = none := rfl
      rw [h0]
      exact findAsking_optr hu hs hk (x :: l) 0 hl
  · have : ∀ n, (Instr.checkKey em (n + 1) pt (kvO k)).run Pr w = .ok () w := fun n => by
      unfold Instr.checkKey
      simp only [Sem.run_bind, run_underlying hu, Result.andThen_ok]
      rfl
    exact this 9999
  · have : ∀ n, Instr.sameBits n (kvO k) (kvO k) = true := fun n => by
      cases k <;> cases n <;> simp [Instr.sameBits, kvO]
    exact this 10000

/-! ### What the clone owns -/
theorem idxOf_app {ord : List Nat} {i : Nat} (h : i ∈ ord) (o : List Nat) : (ord ++ o).idxOf i = ord.idxOf i := by
  rw [List.idxOf_append, if_pos h]

structure OwnAt (bs ord nbs : List Nat) (l : List (Ent (Option Nat))) (c : Nat) : Prop where
  wf : MapWf l c
  get : ∀ i (h : i < bs.length), getE (some bs[i]) l = if i ∈ ord then some (.pointer (filePtr nbs (ord.idxOf i))) else none
  keys : ∀ e ∈ l, ∃ i, ∃ (h : i < bs.length), e.k = some bs[i]
  nodup : ord.Nodup
  lt : ∀ i ∈ ord, i < bs.length
  len : nbs.length = ord.length

def cellM (q m : Nat) : Chunk := (q, .cells #[.map (some m)] 170 (0, 0))
abbrev ownM (m : Nat) (l : List (Ent (Option Nat))) (c : Nat) : Chunk := mapC kvO m l c

theorem OwnAt.nil (bs : List Nat) : OwnAt bs [] [] [] 0 := ⟨MapWf.nil _, fun i h => by simp [getE], (fun e he => by cases he), List.nodup_nil, (fun i hi => by cases hi), rfl⟩

theorem filePtr_app {nbs : List Nat} {i : Nat} (h : i < nbs.length) (o : List Nat) : filePtr (nbs ++ o) i = filePtr nbs i := by
  simp [filePtr, List.getElem?_append_left h]

theorem OwnAt.step {bs ord nbs : List Nat} {l : List (Ent (Option Nat))} {c i b : Nat} (h : OwnAt bs ord nbs l c) (hn : bs.Nodup) (hi : i < bs.length) (ho : i ∉ ord) :
    OwnAt bs (ord ++ [i]) (nbs ++ [b]) (setE (some bs[i]) (.pointer (some ⟨b, 0, none⟩)) c l) (if (getE (some bs[i]) l).isSome then c else c + 1) := by
  refine ⟨h.wf.set _ _, fun j hj => ?_, fun e he => ?_, ?_, fun j hj => ?_, by simp [h.len]⟩
  · rw [getE_setE]
    by_cases hij : j = i
    · subst hij
      rw [if_pos rfl, if_pos (by simp), List.idxOf_append, if_neg ho]
      have e : List.idxOf j [j] = 0 := by simp
      rw [e, Nat.zero_add, ← h.len]
      simp [filePtr]
    · have hne : ¬ bs[j] = bs[i] := fun e => hij ((List.getElem_inj hn).1 e)
      rw [if_neg (fun e => hne (Option.some.inj e)), h.get j hj]
      by_cases hjo : j ∈ ord
      · rw [if_pos hjo, if_pos (by simp [hjo]), idxOf_app hjo, filePtr_app (by rw [h.len]; exact List.idxOf_lt_length_iff.2 hjo)]
      · rw [if_neg hjo, if_neg (by simp [hjo, hij])]
  · have hm : e.k ∈ (setE (some bs[i]) (.pointer (some ⟨b, 0, none⟩)) c l).map (·.k) := List.mem_map.2 ⟨e, he, rfl⟩
    rcases (setE_mem _ _ _ _ _).1 hm with h1 | h1
    · obtain ⟨e', he', h2⟩ := List.mem_map.1 h1
      obtain ⟨j, hj, h3⟩ := h.keys e' he'
      exact ⟨j, hj, h2.symm.trans h3⟩
    · exact ⟨i, hi, h1⟩
  · rw [List.nodup_append]
    refine ⟨h.nodup, by simp, fun a ha b hb => ?_⟩
    simp at hb
    subst hb
    exact fun e => ho (e ▸ ha)
  · rcases List.mem_append.1 hj with hj | hj
    · exact h.lt j hj
    · simp at hj
      subst hj
      exact hi

theorem ptr_inj {b b' : Nat} (h : (⟨b, 0, none⟩ : Addr) = ⟨b', 0, none⟩) : b = b' := congrArg Addr.block h

/-- own, of a file. -/
theorem k106 {E w : World} {Y I : List Chunk} {M : MDisk} {D : DS} {q m : Nat} {ord : List Nat} {nfs : List FRec} {l : List (Ent (Option Nat))} {c : Nat} (hS : Sep E w (ownM m l c :: (cellM q m :: (nfs.map fChunk ++ Y)))) (hD : DRep D M I) (hF : ∀ x ∈ D.fs.map fChunk, x ∈ Y) (hn : D.bs.Nodup)
    (hO : OwnAt D.bs ord (nfs.map (·.b)) l c) (hf : nfs.map (·.f) = ord.map M.fileAt) (hb : ∀ r ∈ nfs, RdB I r.s r.f.bytes) {i : Nat} (hi : i < D.bs.length) :
    callV Pr (.func (.func 106) #[] #[.pointer (some ⟨q, 0, none⟩)]) [.pointer (filePtr D.bs i)] w fun e w' => ∃ (o : List Nat) (nf : List FRec) (l' : List (Ent (Option Nat))) (c' : Nat), e = .returned (.pointer (filePtr ((nfs ++ nf).map (·.b)) ((ord ++ o).idxOf i))) ∧ i ∈ ord ++ o ∧ OwnAt D.bs (ord ++ o) ((nfs ++ nf).map (·.b)) l' c' ∧
      (nfs ++ nf).map (·.f) = (ord ++ o).map M.fileAt ∧ (∀ r ∈ nfs ++ nf, RdB I r.s r.f.bytes) ∧ Sep E w' (ownM m l' c' :: (cellM q m :: ((nfs ++ nf).map fChunk ++ Y))) := by
  refine ⟨by kernel_rfl, ?_⟩
  show Calls Pr 106 #[.pointer (filePtr D.bs i), .pointer (some ⟨q, 0, none⟩)] w _
  obtain ⟨A, r, B, hfs, _, hp, hfa, hr⟩ := hD.file hi
  have hbi : D.bs[i] = r.b := by
    have h1 := filePtr_some hi
    rw [hp] at h1
    exact (ptr_inj (Option.some.inj h1)).symm
  have hkey : ∀ {w : World} {l : List (Ent (Option Nat))} {L : List Chunk}, Sep E w L → (∀ x ∈ Y, x ∈ L) → (∀ e ∈ l, ∃ i, ∃ (h : i < D.bs.length), e.k = some D.bs[i]) → KeyOk Pr 141 kvO w l (some r.b) := by
    intro w l L hS hY hk
    have hpl : ∀ i (h : i < D.bs.length), Plain w D.bs[i] := fun i h => by
      have hm : D.bs[i] ∈ D.fs.map (·.b) := List.getElem_mem h
      obtain ⟨r', hr', e⟩ := List.mem_map.1 hm
      rw [← e]
      exact hS.plain (hY _ (hF _ (List.mem_map.2 ⟨r', hr', rfl⟩)))
    refine keyOk_optr u141 s146 (fun b hb => ?_) (fun x hx b hb => ?_)
    · have : b = D.bs[i] := by rw [hbi]; exact (Option.some.inj hb).symm
      rw [this]
      exact hpl i hi
    · obtain ⟨j, hj, hk'⟩ := hk x hx
      rw [hk'] at hb
      rw [← Option.some.inj hb]
      exact hpl j hj
  rw [hp]
  refine call106 ?_
  unfold ir106
  refine brc_true rfl ?_
  have hget := hO.get i hi
  rw [hbi] at hget
  have lk : ∀ {w : World} {l : List (Ent (Option Nat))} {c : Nat} {L : List Chunk}, Sep E w L → (ownM m l c ∈ L) → (∀ x ∈ Y, x ∈ L) → (∀ e ∈ l, ∃ i, ∃ (h : i < D.bs.length), e.k = some D.bs[i]) → At Pr w (Instr.lookup 170 (.map (some m)) (.pointer (some ⟨r.b, 0, none⟩)) false) ((getE (some r.b) l).getD (.pointer none)) := by
    intro w l c L hS hm hY hk
    have := hS.lookup (mt := 170) hm u170 z141 (hkey hS hY hk)
    exact this
  have hY : ∀ x ∈ Y, x ∈ ownM m l c :: (cellM q m :: (nfs.map fChunk ++ Y)) := fun x hx => by simp [hx]
  have h1 := lk hS List.mem_cons_self hY hO.keys
  rw [hget] at h1
  refine ⟨some m, hS.load (b := q) (o := 0) (List.mem_cons_of_mem _ List.mem_cons_self) rfl (by kernel_rfl), ?_⟩
  by_cases ho : i ∈ ord
  · rw [if_pos ho] at h1
    have hidx := List.idxOf_lt_length_iff.2 ho
    have hidx2 : ord.idxOf i < (nfs.map (·.b)).length := by rw [hO.len]; exact hidx
    have h1 : At Pr w (Instr.lookup 170 (.map (some m)) (.pointer (some ⟨r.b, 0, none⟩)) false) (.pointer (filePtr (nfs.map (·.b)) (ord.idxOf i))) := h1
    refine ⟨_, h1, brc_false (by rw [filePtr_some hidx2]; rfl) ⟨some m, hS.load (b := q) (o := 0) (List.mem_cons_of_mem _ List.mem_cons_self) rfl (by kernel_rfl), _, h1, ?_⟩⟩
    refine ⟨[], [], l, c, ?_, ?_, ?_, ?_, ?_, ?_⟩
    · simp only [List.append_nil]
    · simpa using ho
    · simpa only [List.append_nil] using hO
    · simpa only [List.append_nil] using hf
    · simpa only [List.append_nil] using hb
    · simpa only [List.append_nil] using hS
  · rw [if_neg ho] at h1
    have h1 : At Pr w (Instr.lookup 170 (.map (some m)) (.pointer (some ⟨r.b, 0, none⟩)) false) (.pointer none) := h1
    refine ⟨_, h1, brc_true rfl ?_⟩
    let L0 := ownM m l c :: (cellM q m :: (nfs.map fChunk ++ Y))
    have mr : fChunk r ∈ L0 := hY _ (hF _ (List.mem_map.2 ⟨r, hr, rfl⟩))
    refine ⟨fun w => Sep E w L0, hS.drew, some m, fun w hw => Sep.load (L := L0) hw (b := q) (o := 0) (List.mem_cons_of_mem _ List.mem_cons_self) rfl (by kernel_rfl), r.s, fun w hw => Sep.load (L := L0) hw (b := r.b) (o := 0) mr rfl (by kernel_rfl), (r.f.kept : Int), fun w hw => Sep.load (L := L0) hw (b := r.b) (o := 1) mr rfl (by kernel_rfl), ?_⟩
    obtain ⟨nb, w2, h2, hS2⟩ := hS.drew.newVar (t := 146) (v := .agg #[slV r.s, .int .i64 (r.f.kept : Int)])
    refine ⟨_, w2, h2, fun w => Sep E w L0, fun w hw => hw, hS2.weak (by intro f; simp only [L0, ms_append, ms_cons, ms_nil]; omega), ?_⟩
    have hS2' : Sep E w2 (ownM m l c :: (fChunk ⟨nb, r.s, r.f⟩ :: (cellM q m :: (nfs.map fChunk ++ Y)))) := Sep.weak (L := fChunk ⟨nb, r.s, r.f⟩ :: (ownM m l c :: (cellM q m :: (nfs.map fChunk ++ Y)))) hS2 (by intro f; simp only [ms_append, ms_cons, ms_nil]; omega)
    obtain ⟨w3, h3, hS3⟩ := hS2'.mapUpdate (mt := 170) u170 (.pointer (some ⟨nb, 0, none⟩)) (hkey hS2' (fun x hx => by simp [hx]) hO.keys)
    refine ⟨w3, h3, fun _ => True, trivial, some m, hS3.load (b := q) (o := 0) (cs := #[.map (some m)]) (T := 170) (fr := (0, 0)) (by simp [cellM]) rfl (by kernel_rfl), ?_⟩
    have hst := hO.step (b := nb) hn hi ho
    rw [hbi] at hst
    have h4 := lk hS3 List.mem_cons_self (fun x hx => by simp [hx]) hst.keys
    have hg4 := hst.get i hi
    rw [hbi, if_pos (by simp)] at hg4
    rw [hg4] at h4
    have h4 : At Pr w3 (Instr.lookup 170 (.map (some m)) (.pointer (some ⟨r.b, 0, none⟩)) false) (.pointer (filePtr (nfs.map (·.b) ++ [nb]) ((ord ++ [i]).idxOf i))) := h4
    refine ⟨_, h4, [i], [⟨nb, r.s, r.f⟩], _, _, ?_, by simp, by rw [List.map_append]; exact hst, ?_, fun x hx => ?_, ?_⟩
    · rw [List.map_append]
      rfl
    · rw [List.map_append, hf, List.map_append]
      show _ ++ [r.f] = _ ++ [M.fileAt i]
      rw [hfa]
    · rcases List.mem_append.1 hx with hx | hx
      · exact hb x hx
      · rw [List.mem_singleton] at hx
        subst hx
        exact hD.bytes r hr
    · exact hS3.weak (by intro f; simp only [ownM, List.map_append, List.map_cons, List.map_nil, ms_append, ms_cons, ms_nil]; omega)

/-- own, of none. -/
theorem k106n {E w : World} {Y : List Chunk} {bs ord nbs : List Nat} {q m : Nat} {l : List (Ent (Option Nat))} {c : Nat} (hS : Sep E w (ownM m l c :: (cellM q m :: Y))) (hO : OwnAt bs ord nbs l c) (hpl : ∀ i (h : i < bs.length), Plain w bs[i]) :
    callV Pr (.func (.func 106) #[] #[.pointer (some ⟨q, 0, none⟩)]) [.pointer none] w fun e w' => e = .returned (.pointer none) ∧ w' = w := by
  refine ⟨by kernel_rfl, ?_⟩
  show Calls Pr 106 #[.pointer none, .pointer (some ⟨q, 0, none⟩)] w _
  refine call106 ?_
  unfold ir106
  refine brc_false rfl ⟨some m, hS.load (b := q) (o := 0) (List.mem_cons_of_mem _ List.mem_cons_self) rfl (by kernel_rfl), none, ?_, rfl, rfl⟩
  have hk : KeyOk Pr 141 kvO w l none := keyOk_optr u141 s146 (fun b hb => by cases hb) (fun x hx b hb => by
    obtain ⟨j, hj, hk'⟩ := hO.keys x hx
    rw [hk'] at hb
    rw [← Option.some.inj hb]
    exact hpl j hj)
  have := hS.lookup (mt := 170) List.mem_cons_self u170 z141 hk
  have hn : getE (none : Option Nat) l = none := getE_none.2 fun e he h => by
    obtain ⟨j, hj, hk'⟩ := hO.keys e he
    rw [hk'] at h
    cases h
  rw [hn] at this
  exact this

end Go.Proofs.Ytonjaaljnjjjcaa

/- The reference's disk: names by lists. Conditions: as each lemma says. -/
set_option linter.unusedVariables false
set_option linter.unusedSimpArgs false
namespace Go.Proofs.Ytonjaaljnjjjcaa
open Go Go.RowKit

def encN (x : ByteArray × Nat) : List Value := [.string x.1, .int .i64 (x.2 : Int)]
theorem encN_ok : EncOk encN 2 := ⟨fun _ => rfl, fun x u hu => by simp [encN] at hu; rcases hu with rfl | rfl <;> rfl, by decide⟩
theorem ti156 : TI 156 163 2 24 (.agg #[.string ByteArray.empty, .int .i64 0]) := ⟨by kernel_rfl, by kernel_rfl, rfl, by decide⟩
theorem bsN (x : ByteArray × Nat) : bsV Pr 156 1 [(0, .agg #[.string x.1, .int .i64 (x.2 : Int)])] = some (encN x) := by kernel_rfl

def findI (k : ByteArray) (nm : Names) : Int := match findN k nm with
  | none => -1
  | some i => (i : Int)

theorem drop_at {α : Type} {l : List α} {j : Nat} {x : α} (h : l[j]? = some x) : l.drop j = x :: l.drop (j + 1) := by
  obtain ⟨hj, rfl⟩ := List.getElem?_eq_some_iff.1 h
  exact List.drop_eq_getElem_cons hj
theorem take_at {α : Type} {l : List α} {j : Nat} {x : α} (h : l[j]? = some x) : l.take (j + 1) = l.take j ++ [x] := by
  rw [List.take_add_one, h]; rfl

/-- find. -/
theorem k105 {E w : World} {L I : List Chunk} {s : SV} {nm : Names} (hS : Sep E w L) (hr : RdS I 2 s (nm.flatMap encN)) (hI : ∀ c ∈ I, c ∈ L) (hn : nm.length ≤ 1000000000000) (k : ByteArray) :
    Calls Pr 105 #[.slice s.a s.len s.cap, .string k] w fun e w' => e = .returned (.int .i64 (findI k nm)) ∧ w' = w := by
  refine call105 ?_
  unfold ir105
  have hsz := RdG.size encN_ok hr
  refine ⟨fun n σ w1 => ∃ j : Nat, j ≤ nm.length ∧ n = nm.length - j ∧ σ = ((j : Int), ()) ∧ w1 = w ∧ findN k nm = findN k (nm.drop j), nm.length, ⟨0, Nat.zero_le _, rfl, rfl, rfl, rfl⟩, ?_⟩
  rintro n σ w1 ⟨j, hj, rfl, rfl, rfl, hf⟩ _
  dsimp only
  refine brc_intro (fun h => ?_) (fun h => ?_)
  · have h : j < nm.length := by simp at h; omega
    have hx : nm[j]? = some nm[j] := List.getElem?_eq_getElem h
    generalize nm[j] = x at hx
    obtain ⟨a, ha, _, hat⟩ := RdG.at_ encN_ok hr hx
    rw [ha]
    refine ⟨⟨by omega, by omega⟩, x.1, hat (j := 0) (v := .string x.1) (t := 9) rfl (by kernel_rfl) hS hI, ?_⟩
    rw [drop_at hx] at hf
    rw [ba_eq_toList]
    refine brc_intro (fun he => ?_) (fun he => ?_)
    · have he : x.1 = k := by simpa using he
      refine ⟨⟨by omega, by omega⟩, (x.2 : Int), hat (j := 1) (v := .int .i64 (x.2 : Int)) (t := 3) rfl (by kernel_rfl) hS hI, ?_, rfl⟩
      unfold findI
      rw [hf]
      simp [findN, he]
    · have he : ¬ x.1 = k := by simpa using he
      refine ⟨nm.length - (j + 1), by omega, j + 1, by omega, rfl, by rw [w64 (by omega) (by omega)]; rfl, rfl, ?_⟩
      rw [hf]
      simp [findN, he]
  · have h : j = nm.length := by simp at h; omega
    subst h
    refine ⟨?_, rfl⟩
    unfold findI
    rw [hf, List.drop_length]
    rfl

theorem delN_app (k : ByteArray) : ∀ l m : Names, delN k (l ++ m) = delN k l ++ delN k m
  | [], _ => rfl
  | x :: l, m => by
    have h1 : ∀ t : Names, delN k (x :: t) = if x.1 = k then delN k t else x :: delN k t := fun _ => rfl
    rw [List.cons_append, h1, h1, delN_app k l m]
    split <;> rfl
theorem insN_cons (k : ByteArray) (f : Nat) (x : ByteArray × Nat) (t : Names) : insN k f (x :: t) = if nlt k x.1 then (k, f) :: x :: t else x :: insN k f t := rfl

/-- without. -/
theorem k144 {E w : World} {L I : List Chunk} {s : SV} {nm : Names} (hS : Sep E w L) (hr : RdS I 2 s (nm.flatMap encN)) (hI : ∀ c ∈ I, c ∈ L) (hn : nm.length ≤ 1000000000000) (k : ByteArray) :
    Calls Pr 144 #[.slice s.a s.len s.cap, .string k] w fun e w' => ∃ (s' : SV) (C G : List Chunk), e = .returned (.slice s'.a s'.len s'.cap) ∧ Own 163 2 s' ((delN k nm).flatMap encN) C ∧ Sep E w' (C ++ (G ++ L)) := by
  refine call144 ?_
  unfold ir144
  have hsz := RdG.size encN_ok hr
  refine ⟨fun n σ w1 => ∃ (j : Nat) (C G : List Chunk), j ≤ nm.length ∧ n = nm.length - j ∧ σ.1 = (j : Int) ∧ Own 163 2 σ.2.1 ((delN k (nm.take j)).flatMap encN) C ∧ Sep E w1 (C ++ (G ++ L)), nm.length, ⟨0, [], [], Nat.zero_le _, rfl, rfl, Own.nil _ _, hS⟩, ?_⟩
  rintro n ⟨jj, s', u⟩ w1 ⟨j, C, G, hj, rfl, hjj, ho, hS1⟩ _
  dsimp only at hjj ho ⊢
  subst hjj
  have hI1 : ∀ c ∈ I, c ∈ C ++ (G ++ L) := fun c hc => by simp [hI c hc]
  refine brc_intro (fun h => ?_) (fun h => ?_)
  · have h : j < nm.length := by simp at h; omega
    have hx : nm[j]? = some nm[j] := List.getElem?_eq_getElem h
    generalize nm[j] = x at hx
    obtain ⟨a, ha, hat0, hat⟩ := RdG.at_ encN_ok hr hx
    rw [ha]
    refine ⟨⟨by omega, by omega⟩, x.1, hat (j := 0) (v := .string x.1) (t := 9) rfl (by kernel_rfl) hS1 hI1, ?_⟩
    rw [ba_eq_toList]
    have ht : delN k (nm.take (j + 1)) = delN k (nm.take j) ++ if x.1 = k then [] else [x] := by
      rw [take_at hx, delN_app]
      rfl
    refine brc_intro (fun he => ?_) (fun he => ?_)
    · have he : ¬ x.1 = k := by simpa using he
      rw [if_neg he] at ht
      refine ⟨⟨by omega, by omega⟩, x.1, (x.2 : Int), hat0 (t := 163) (by kernel_rfl) (by kernel_rfl) hS1 hI1, ?_⟩
      have hl : (delN k (nm.take j)).length ≤ nm.length := by
        have h1 := delN_len k (nm.take j)
        have h2 : (nm.take j).length ≤ nm.length := by rw [List.length_take]; omega
        omega
      obtain ⟨s2, w2, h2, s3, w3, C', G', h3, ho3, hS3⟩ := Sep.pushG encN_ok ti156 (x := x) (v := .agg #[.string x.1, .int .i64 (x.2 : Int)]) (ty := 156) hS1 ho (bsN x) (by omega) (by unfold maxLen; omega)
      refine ⟨s2, w2, h2, s3, w3, h3, nm.length - (j + 1), by omega, j + 1, C', G' ++ G, by omega, rfl, by rw [w64 (by omega) (by omega)]; rfl, by rw [ht]; exact ho3, hS3.weak (by intro f; simp only [ms_append, ms_cons, ms_nil]; omega)⟩
    · have he : x.1 = k := by simpa using he
      rw [if_pos he, List.append_nil] at ht
      exact ⟨nm.length - (j + 1), by omega, j + 1, C, G, by omega, rfl, by rw [w64 (by omega) (by omega)]; rfl, by rw [ht]; exact ho, hS1⟩
  · have h : j = nm.length := by simp at h; omega
    subst h
    rw [List.take_length] at ho
    exact ⟨s', C, G, rfl, ho, hS1⟩

theorem greater (a b : ByteArray) : (!((Op.bytesLess (ByteArray.toList a) (ByteArray.toList b)) || (ByteArray.toList a == ByteArray.toList b))) = decide (nlt b a) := by
  rw [ba_eq_toList]
  by_cases h : nlt b a
  · have h1 : ¬ nlt a b := fun e => nlt_irrefl a (nlt_trans e h)
    have h2 : ¬ a = b := fun e => nlt_irrefl a (by rw [← e] at h; exact h)
    have h1' : Op.bytesLess (ByteArray.toList a) (ByteArray.toList b) = false := by simpa [nlt] using h1
    simp [h, h1', h2]
  · by_cases h2 : a = b
    · subst h2
      simp [nlt_irrefl]
    · have h1 : nlt a b := (nlt_total h2).resolve_right h
      have h1' : Op.bytesLess (ByteArray.toList a) (ByteArray.toList b) = true := h1
      simp [h, h1']

/-- with. -/
theorem k143 {E w : World} {L I : List Chunk} {s : SV} {nm : Names} (hS : Sep E w L) (hr : RdS I 2 s (nm.flatMap encN)) (hI : ∀ c ∈ I, c ∈ L) (hn : nm.length ≤ 100000000000) (k : ByteArray) (f : Nat) :
    Calls Pr 143 #[.slice s.a s.len s.cap, .string k, .int .i64 (f : Int)] w fun e w' => ∃ (s' : SV) (C G : List Chunk), e = .returned (.slice s'.a s'.len s'.cap) ∧ Own 163 2 s' ((insN k f (delN k nm)).flatMap encN) C ∧ Sep E w' (C ++ (G ++ L)) := by
  refine call143 ?_
  unfold ir143
  refine (k144 hS hr hI (by omega) k).mono ?_
  rintro _ w1 ⟨s1, C1, G1, rfl, ho1, hS1⟩
  refine ⟨s1, rfl, ?_⟩
  have hdl := delN_len k nm
  generalize hrest : delN k nm = rest at *
  have hr1 := ho1.rds
  have hsz := RdG.size encN_ok hr1
  let F := C1 ++ (G1 ++ L)
  refine ⟨fun n σ w2 => ∃ (j : Nat) (out : Names) (C G : List Chunk), j ≤ rest.length ∧ n = rest.length - j ∧ σ.1 = (j : Int) ∧ out.length ≤ j + 1 ∧ (σ.2.1 = false → out.length = j) ∧ insN k f rest = out ++ (if σ.2.1 = true then rest.drop j else insN k f (rest.drop j)) ∧ Own 163 2 σ.2.2.1 (out.flatMap encN) C ∧ Sep E w2 (C ++ (G ++ F)), rest.length, ⟨0, [], [], [], Nat.zero_le _, rfl, rfl, by simp, fun _ => rfl, rfl, Own.nil _ _, hS1⟩, ?_⟩
  rintro n ⟨jj, put, s', u⟩ w2 ⟨j, out, C, G, hj, rfl, hjj, hol, hol2, hins, ho, hS2⟩ _
  dsimp only at hjj hol hol2 hins ho ⊢
  subst hjj
  have hI2 : ∀ c ∈ C1, c ∈ C ++ (G ++ F) := fun c hc => by simp [F, hc]
  refine brc_intro (fun h => ?_) (fun h => ?_)
  · have h : j < rest.length := by simp at h; omega
    have hx : rest[j]? = some rest[j] := List.getElem?_eq_getElem h
    generalize rest[j] = x at hx
    obtain ⟨a, ha, hat0, hat⟩ := RdG.at_ encN_ok hr1 hx
    rw [ha]
    rw [drop_at hx] at hins
    -- one more behind
    have push : ∀ {C G : List Chunk} {s' : SV} {out : Names} {w2 : World} (y : ByteArray × Nat), out.length ≤ j + 1 → Own 163 2 s' (out.flatMap encN) C → Sep E w2 (C ++ (G ++ F)) → ∃ (s2 : SV) (w3 : World), Sem.run Pr (Instr.buildSlice 156 1 #[(0, .agg #[.string y.1, .int .i64 (y.2 : Int)])]) w2 = .ok (.slice s2.a s2.len s2.cap) w3 ∧
        ∃ (s3 : SV) (w4 : World) (C' G' : List Chunk), Sem.run Pr (Builtin.append_ #[156, 156] 156 #[.slice s'.a s'.len s'.cap, .slice s2.a s2.len s2.cap]) w3 = .ok (.slice s3.a s3.len s3.cap) w4 ∧ Own 163 2 s3 ((out ++ [y]).flatMap encN) C' ∧ Sep E w4 (C' ++ (G' ++ F)) := by
      intro C G s' out w2 y hl ho hS2
      obtain ⟨s2, w3, h2, s3, w4, C', G', h3, ho3, hS3⟩ := Sep.pushG encN_ok ti156 (x := y) (v := .agg #[.string y.1, .int .i64 (y.2 : Int)]) (ty := 156) hS2 ho (bsN y) (by omega) (by unfold maxLen; omega)
      exact ⟨s2, w3, h2, s3, w4, C', G' ++ G, h3, ho3, hS3.weak (by intro f; simp only [ms_append, ms_cons, ms_nil]; omega)⟩
    refine brc_intro (fun hp => ?_) (fun hp => ?_)
    · have hp : put = false := by simpa using hp
      subst hp
      simp only [Bool.false_eq_true, if_false] at hins
      have hl0 := hol2 rfl
      refine ⟨⟨by omega, by omega⟩, x.1, hat (j := 0) (v := .string x.1) (t := 9) rfl (by kernel_rfl) hS2 hI2, ?_⟩
      rw [greater]
      rw [insN_cons] at hins
      refine brc_intro (fun hg => ?_) (fun hg => ?_)
      · have hg : nlt k x.1 := by simpa using hg
        rw [if_pos hg] at hins
        obtain ⟨s2, w3, h2, s3, w4, C', G', h3, ho3, hS3⟩ := push (k, f) hol ho hS2
        refine ⟨s2, w3, h2, s3, w4, h3, ⟨by omega, by omega⟩, x.1, (x.2 : Int), hat0 (t := 163) (by kernel_rfl) (by kernel_rfl) hS3 (fun c hc => by simp [F, hc]), ?_⟩
        obtain ⟨s4, w5, h4, s5, w6, C2, G2, h5, ho5, hS5⟩ := push x (by simp; omega) ho3 hS3
        refine ⟨s4, w5, h4, s5, w6, h5, rest.length - (j + 1), by omega, j + 1, _, C2, G2, by omega, rfl, by rw [w64 (by omega) (by omega)]; rfl, by simp; omega, (fun e => by cases e), ?_, ho5, hS5⟩
        rw [hins]
        simp
      · have hg : ¬ nlt k x.1 := by simpa using hg
        rw [if_neg hg] at hins
        refine ⟨⟨by omega, by omega⟩, x.1, (x.2 : Int), hat0 (t := 163) (by kernel_rfl) (by kernel_rfl) hS2 hI2, ?_⟩
        obtain ⟨s4, w5, h4, s5, w6, C2, G2, h5, ho5, hS5⟩ := push x hol ho hS2
        refine ⟨s4, w5, h4, s5, w6, h5, rest.length - (j + 1), by omega, j + 1, _, C2, G2, by omega, rfl, by rw [w64 (by omega) (by omega)]; rfl, by simp; omega, (fun _ => by simp; omega), ?_, ho5, hS5⟩
        rw [hins]
        simp
    · have hp : put = true := by simpa using hp
      subst hp
      simp only [if_true] at hins
      refine ⟨⟨by omega, by omega⟩, x.1, (x.2 : Int), hat0 (t := 163) (by kernel_rfl) (by kernel_rfl) hS2 hI2, ?_⟩
      obtain ⟨s4, w5, h4, s5, w6, C2, G2, h5, ho5, hS5⟩ := push x hol ho hS2
      refine ⟨s4, w5, h4, s5, w6, h5, rest.length - (j + 1), by omega, j + 1, _, C2, G2, by omega, rfl, by rw [w64 (by omega) (by omega)]; rfl, by simp; omega, (fun e => by cases e), ?_, ho5, hS5⟩
      rw [hins]
      simp
  · have h : j = rest.length := by simp at h; omega
    subst h
    rw [List.drop_length] at hins
    refine brc_intro (fun hp => ?_) (fun hp => ?_)
    · have hp : put = false := by simpa using hp
      subst hp
      simp only [Bool.false_eq_true, if_false] at hins
      obtain ⟨s2, w3, h2, s3, w4, C', G', h3, ho3, hS3⟩ := Sep.pushG encN_ok ti156 (x := (k, f)) (v := .agg #[.string k, .int .i64 (f : Int)]) (ty := 156) hS2 ho (bsN (k, f)) (by omega) (by unfold maxLen; omega)
      refine ⟨s2, w3, h2, s3, w4, h3, s3, C', G' ++ (G ++ (C1 ++ G1)), rfl, ?_, hS3.weak (by intro g; simp only [F, ms_append, ms_cons, ms_nil]; omega)⟩
      rw [hins]
      exact ho3
    · have hp : put = true := by simpa using hp
      subst hp
      simp only [if_true, List.append_nil] at hins
      refine ⟨s', C, G ++ (C1 ++ G1), rfl, ?_, hS2.weak (by intro g; simp only [F, ms_append, ms_cons, ms_nil]; omega)⟩
      rw [hins]
      exact ho

def encC (c : MChange) : List Value := [.string c.gone, .string c.new, .int .i64 (if c.gone = noName then (c.file : Int) else 0)]
theorem encC_ok : EncOk encC 3 := ⟨fun _ => rfl, fun x u hu => by simp [encC] at hu; rcases hu with rfl | rfl | rfl <;> rfl, by decide⟩
theorem ti157 : TI 157 166 3 40 (.agg #[.string ByteArray.empty, .string ByteArray.empty, .int .i64 0]) := ⟨by kernel_rfl, by kernel_rfl, rfl, by decide⟩

theorem ba_eq0 (s : ByteArray) : (ByteArray.toList s == ByteArray.toList (⟨#[]⟩ : ByteArray)) = decide (s = noName) := by
  rw [ba_eq_toList]
  rfl

/-- change. -/
theorem k104 {E w : World} {L I : List Chunk} {s : SV} {nm : Names} (hS : Sep E w L) (hr : RdS I 2 s (nm.flatMap encN)) (hI : ∀ c ∈ I, c ∈ L) (hn : nm.length ≤ 100000000000) (he : NoEmpty nm) {c : MChange} (hf : Fits nm c) :
    Calls Pr 104 #[.slice s.a s.len s.cap, .agg #[.string c.gone, .string c.new, .int .i64 (if c.gone = noName then (c.file : Int) else 0)]] w fun e w' => ∃ (s' : SV) (C G : List Chunk), e = .returned (.slice s'.a s'.len s'.cap) ∧ Own 163 2 s' ((doN nm c).flatMap encN) C ∧ Sep E w' (C ++ (G ++ L)) := by
  refine call104 ?_
  unfold ir104
  generalize hfi : (if c.gone = noName then (c.file : Int) else 0) = fi
  obtain ⟨b, w1, h1, hS1⟩ := hS.newVar (t := 166) (v := .agg #[.string c.gone, .string c.new, .int .i64 fi])
  let X : Chunk := (b, .cells #[.string c.gone, .string c.new, .int .i64 fi] 166 (0, 0))
  have hS1 : Sep E w1 (X :: L) := hS1
  have hI1 : ∀ x ∈ I, x ∈ X :: L := fun x hx => List.mem_cons_of_mem _ (hI x hx)
  refine ⟨_, w1, h1, c.gone, hS1.load (o := 0) List.mem_cons_self rfl (by kernel_rfl), ?_⟩
  rw [ba_eq0]
  refine brc_intro (fun hg => ?_) (fun hg => ?_)
  · have hg : c.gone = noName := by simpa using hg
    have hnew : c.new ≠ noName := by
      rcases hf with h | h
      · exact h.2
      · exact absurd hg h.1
    rw [if_pos hg] at hfi
    subst hfi
    refine ⟨c.new, hS1.load (o := 1) List.mem_cons_self rfl (by kernel_rfl), _, hS1.load (o := 2) List.mem_cons_self rfl (by kernel_rfl), ?_⟩
    refine (k143 hS1 hr hI1 hn c.new c.file).mono ?_
    rintro _ w2 ⟨s', C, G, rfl, ho, hS2⟩
    refine ⟨s', rfl, s', C, G ++ [X], rfl, ?_, hS2.weak (by intro f; simp only [ms_append, ms_cons, ms_nil]; omega)⟩
    unfold doN
    rw [if_neg hnew, hg, delN_none (k := noName) he]
    exact ho
  · have hg : c.gone ≠ noName := by simpa using hg
    obtain ⟨i, hi, hfile⟩ : ∃ i, findN c.gone nm = some i ∧ (c.new ≠ noName → c.file = i) := by
      rcases hf with h | h
      · exact absurd h.1 hg
      · exact h.2
    refine ⟨c.gone, hS1.load (o := 0) List.mem_cons_self rfl (by kernel_rfl), ?_⟩
    refine (k105 hS1 hr hI1 (by omega) c.gone).mono ?_
    rintro _ w2 ⟨rfl, rfl⟩
    have hfind : findI c.gone nm = (i : Int) := by unfold findI; rw [hi]
    rw [hfind]
    refine ⟨_, rfl, c.gone, hS1.load (o := 0) List.mem_cons_self rfl (by kernel_rfl), ?_⟩
    refine (k144 hS1 hr hI1 (by omega) c.gone).mono ?_
    rintro _ w3 ⟨s2, C2, G2, rfl, ho2, hS2⟩
    have mX : X ∈ C2 ++ (G2 ++ X :: L) := by simp
    refine ⟨s2, rfl, c.new, hS2.load (b := b) (o := 1) mX rfl (by kernel_rfl), ?_⟩
    rw [ba_eq0]
    unfold doN
    refine brc_intro (fun hw => ?_) (fun hw => ?_)
    · have hw : c.new = noName := by simpa using hw
      rw [if_pos hw]
      exact ⟨s2, C2, G2 ++ [X], rfl, ho2, hS2.weak (by intro f; simp only [ms_append, ms_cons, ms_nil]; omega)⟩
    · have hw : c.new ≠ noName := by simpa using hw
      rw [if_neg hw]
      refine ⟨c.new, hS2.load (b := b) (o := 1) mX rfl (by kernel_rfl), ?_⟩
      have hdl := delN_len c.gone nm
      rw [hfile hw]
      refine (k143 hS2 ho2.rds (fun x hx => List.mem_append_left _ hx) (by omega) c.new i).mono ?_
      rintro _ w4 ⟨s3, C3, G3, rfl, ho3, hS3⟩
      exact ⟨s3, rfl, s3, C3, G3 ++ (C2 ++ (G2 ++ [X])), rfl, ho3, hS3.weak (by intro f; simp only [ms_append, ms_cons, ms_nil]; omega)⟩

end Go.Proofs.Ytonjaaljnjjjcaa

/- The reference's disk: how it lies, and its contracts. Conditions: as each lemma says. -/
set_option linter.unusedVariables false
set_option linter.unusedSimpArgs false
namespace Go.Proofs.Ytonjaaljnjjjcaa
open Go Go.RowKit

/-! ### A store into an owned slice -/
theorem spl_get (cs : List Value) (o : Nat) (vs : List Value) (h : o + vs.length ≤ cs.length) (i : Nat) : (spl cs o vs)[i]? = if i < o then cs[i]? else if i < o + vs.length then vs[i - o]? else cs[i]? := by
  unfold spl
  have e : (cs.take o).length = o := by rw [List.length_take]; omega
  rw [List.append_assoc]
  by_cases h1 : i < o
  · rw [List.getElem?_append_left (by omega), if_pos h1, List.getElem?_take, if_pos h1]
  · rw [List.getElem?_append_right (by omega), if_neg h1, e]
    by_cases h2 : i < o + vs.length
    · rw [List.getElem?_append_left (by omega), if_pos h2]
    · rw [List.getElem?_append_right (by omega), if_neg h2, List.getElem?_drop]
      congr 1
      omega
theorem Sep.storeOwn {E w : World} {C L : List Chunk} {T sz : Nat} {s : SV} {vs : List Value} (hS : Sep E w (C ++ L)) (ho : Own T sz s vs C) {j m : Nat} {v : Value} {t : TypeId} (hm : j + m ≤ vs.length) (hp : 0 < vs.length) (hn : sizeOf? Pr t = some m) (hv : v.cells.size = m) (h1 : ∀ u ∈ v.cells.toList, u.oneCell' = true) :
    ∃ a, s.a = some a ∧ ∃ (w' : World) (C' : List Chunk), Sem.run Pr (Instr.storeAt t (.pointer (some (a.add j))) v) w = .ok () w' ∧ Own T sz s (spl vs j v.cells.toList) C' ∧ Sep E w' (C' ++ L) := by
  have hlen := ho.len
  rcases ho.form with ⟨h1', h2, h3, rfl⟩ | ⟨g, cur, h1', rfl, h2, h3, h4, h5⟩
  · rw [h2, Nat.zero_mul] at hlen
    omega
  · refine ⟨_, h1', ?_⟩
    have hmul : s.len * sz ≤ s.cap * sz := Nat.mul_le_mul_right _ h2
    have hS' : Sep E w ((g, .cells cur.toList.toArray T (0, 0)) :: L) := hS
    obtain ⟨w', hw, hS2⟩ := hS'.store (o := j) (n := m) (v := v) (t := t) hn hv (by rw [Array.length_toList, h4]; omega) h1
    have hvl : v.cells.toList.length = m := by simpa using hv
    have htl : (cur.toList.take (s.len * sz)).length = s.len * sz := by rw [h5]; exact hlen
    refine ⟨w', [(g, .cells (spl cur.toList j v.cells.toList).toArray T (0, 0))], by rw [addr_add, Nat.zero_add]; exact hw, ⟨?_, .inr ⟨g, _, h1', rfl, h2, h3, ?_, ?_⟩⟩, hS2⟩
    · unfold spl
      simp only [List.length_append, List.length_take, List.length_drop, hvl]
      omega
    · unfold spl
      have hcl : cur.toList.length = s.cap * sz := by simpa using h4
      simp only [List.size_toArray, List.length_append, List.length_take, List.length_drop, hvl, hcl]
      omega
    · have hcl : cur.toList.length = s.cap * sz := by simpa using h4
      have hjm : j + v.cells.toList.length ≤ s.len * sz := by omega
      apply List.ext_getElem?
      intro i
      rw [List.getElem?_take, spl_get _ _ _ (by omega), spl_get _ _ _ (by omega)]
      have hvs : vs[i]? = if i < s.len * sz then cur.toList[i]? else none := by rw [← h5, List.getElem?_take]
      rw [hvs]
      by_cases hi : i < s.len * sz
      · simp only [hi, if_true]
      · simp only [hi, if_false]
        rw [if_neg (by omega), if_neg (by omega)]

theorem spl_part (P e Q vs : List Value) {j : Nat} (h : j + vs.length ≤ e.length) : spl (P ++ (e ++ Q)) (P.length + j) vs = P ++ (spl e j vs ++ Q) := by
  unfold spl
  have h1 : (P ++ (e ++ Q)).take (P.length + j) = P ++ e.take j := by
    rw [List.take_length_add_append, List.take_append_of_le_length (by omega)]
  have h2 : (P ++ (e ++ Q)).drop (P.length + j + vs.length) = e.drop (j + vs.length) ++ Q := by
    rw [Nat.add_assoc, List.drop_length_add_append, List.drop_append_of_le_length h]
  rw [h1, h2]
  simp only [List.append_assoc]

/-- A part of an element turns. -/
theorem spl_enc {α : Type} {enc : α → List Value} {sz : Nat} (h : EncOk enc sz) (A B : List α) (x x' : α) {j : Nat} {vs : List Value} (hj : j + vs.length ≤ sz) (hx : spl (enc x) j vs = enc x') :
    spl ((A ++ x :: B).flatMap enc) (A.length * sz + j) vs = (A ++ x' :: B).flatMap enc := by
  rw [List.flatMap_append, List.flatMap_cons, ← h.flat A, spl_part _ _ _ _ (by rw [h.len]; exact hj), hx, List.flatMap_append, List.flatMap_cons]

/-! ### How it lies -/
def encF (r : SV × MFile) : List Value := [slV r.1, .int .i64 (r.2.kept : Int)]
theorem encF_ok : EncOk encF 2 := ⟨fun _ => rfl, fun x u hu => by simp [encF] at hu; rcases hu with rfl | rfl <;> rfl, by decide⟩
theorem ti155 : TI 155 169 2 32 (.agg #[.slice none 0 0, .int .i64 0]) := ⟨by kernel_rfl, by kernel_rfl, rfl, by decide⟩

structure RS where
  fs : List (SV × MFile)
  sf : SV
  CF : List Chunk
  sn : SV
  sk : SV
  sc : SV
  lf : Int

def rChunkD (M : MDisk) (d : Nat) (sf sn sk sc : SV) (lf : Int) : Chunk := (d, .cells #[slV sf, slV sn, slV sk, slV sc, .int .i64 (M.room : Int), .bool M.down, .bool M.doomed, .int .i64 lf] 159 (0, 0))
def RS.chunks (R : RS) (M : MDisk) (d : Nat) : List Chunk := rChunkD M d R.sf R.sn R.sk R.sc R.lf :: R.CF

structure RRep (R : RS) (M : MDisk) (I : List Chunk) : Prop where
  files : R.fs.map (·.2) = M.files
  bytes : ∀ r ∈ R.fs, RdB I r.1 r.2.bytes
  own : Own 169 2 R.sf (R.fs.flatMap encF) R.CF
  now : RdS I 2 R.sn (M.now.flatMap encN)
  kept : RdS I 2 R.sk (M.kept.flatMap encN)
  chs : RdS I 3 R.sc (M.changes.flatMap encC)
  left : M.doomed = true → M.down = false → R.lf = (M.left : Int)

theorem RRep.mono {R : RS} {M : MDisk} {I I' : List Chunk} (h : RRep R M I) (hI : ∀ c ∈ I, c ∈ I') : RRep R M I' :=
  ⟨h.files, fun r hr => (h.bytes r hr).mono hI, h.own, h.now.mono hI, h.kept.mono hI, h.chs.mono hI, h.left⟩
theorem RRep.right {R : RS} {M : MDisk} {I : List Chunk} (h : RRep R M I) (C : List Chunk) : RRep R M (C ++ I) := h.mono fun c hc => List.mem_append_right _ hc

theorem ready_40 {M : MDisk} (h : M.ready.1 ≠ 0) : M.ready.1 = 40 := by
  unfold MDisk.ready at h ⊢
  split
  · rfl
  · rename_i h1
    rw [if_neg h1] at h
    split
    · rename_i h2
      rw [if_pos h2] at h
      split
      · rfl
      · rename_i h3
        rw [if_neg h3] at h
        exact absurd rfl h
    · rename_i h2
      rw [if_neg h2] at h
      exact absurd rfl h

theorem now_len {M : MDisk} (hg : M.Good) : M.now.length ≤ M.kept.length + M.changes.length := by
  rw [hg.now]
  exact foldl_len _ _

/-- right. -/
theorem k141 (w : World) (n : ByteArray) : Calls Pr 141 #[.string n] w fun e w' => e = .returned (.bool (MDisk.right n)) ∧ w' = w := by
  refine call141 ?_
  unfold ir141
  refine brc_intro (fun h => ?_) (fun h => ?_)
  · refine ⟨?_, rfl⟩
    have h : 1 ≤ n.size := by simp at h; omega
    congr 2
    simp only [MDisk.right, h, decide_true, Bool.true_and]
    rw [decide_eq_decide]
    omega
  · refine ⟨?_, rfl⟩
    have h : ¬ 1 ≤ n.size := by simp at h; omega
    simp [MDisk.right, h]

/-- down. -/
theorem k126 {E w : World} {L I : List Chunk} {M : MDisk} {R : RS} {d : Nat} (hl : M.left ≤ 9223372036854775807) (hS : Sep E w (R.chunks M d ++ L)) (hR : RRep R M I) :
    Calls Pr 126 #[.pointer (some ⟨d, 0, none⟩)] w fun e w' => e = .returned (.bool (decide (M.ready.1 ≠ 0))) ∧ ∃ lf, RRep { R with lf := lf } M.ready.2 I ∧ Sep E w' (({ R with lf := lf } : RS).chunks M.ready.2 d ++ L) := by
  refine call126 ?_
  unfold ir126
  refine ⟨M.down, hS.load (b := d) (o := 5) List.mem_cons_self rfl (by kernel_rfl), brc_intro (fun h => ?_) (fun h => ?_)⟩
  · have h : M.down = false := by simpa using h
    refine ⟨M.doomed, hS.load (b := d) (o := 6) List.mem_cons_self rfl (by kernel_rfl), brc_intro (fun h' => ?_) (fun h' => ?_)⟩
    · have hlf := hR.left h' h
      refine ⟨R.lf, hS.load (b := d) (o := 7) List.mem_cons_self rfl (by kernel_rfl), ?_⟩
      rw [hlf]
      obtain ⟨w1, h1, hS1⟩ := Sep.store (cs := [slV R.sf, slV R.sn, slV R.sk, slV R.sc, .int .i64 (M.room : Int), .bool M.down, .bool M.doomed, .int .i64 R.lf]) (o := 5) (n := 1) (v := .bool ((M.left : Int) == 0)) (t := 4) hS (by kernel_rfl) rfl (by simp) (by simp [Value.cells, Value.oneCell'])
      refine ⟨w1, h1, R.lf, hS1.load (b := d) (o := 7) List.mem_cons_self rfl (by kernel_rfl), ?_⟩
      rw [hlf] at hS1 ⊢
      rw [w64 (by omega) (by omega)]
      obtain ⟨w2, h2, hS2⟩ := Sep.store (o := 7) (n := 1) (v := .int .i64 ((M.left : Int) - 1)) (t := 3) hS1 (by kernel_rfl) rfl (by simp [spl, Value.cells]) (by simp [Value.cells, Value.oneCell'])
      refine ⟨w2, h2, ((M.left : Int) == 0), hS2.load (b := d) (o := 5) List.mem_cons_self rfl (by kernel_rfl), ?_⟩
      by_cases h0 : M.left = 0
      · have hr : M.ready = (40, { M with down := true }) := by simp [MDisk.ready, h, h', h0]
        rw [hr]
        refine ⟨by simp [h0], (M.left : Int) - 1, ⟨hR.files, hR.bytes, hR.own, hR.now, hR.kept, hR.chs, fun _ hd => by cases hd⟩, ?_⟩
        rw [show (((M.left : Nat) : Int) == 0) = true by simp [h0]] at hS2
        exact hS2
      · have hr : M.ready = (0, { M with left := M.left - 1 }) := by simp [MDisk.ready, h, h', h0]
        rw [hr]
        refine ⟨by simp [h0], (M.left : Int) - 1, ⟨hR.files, hR.bytes, hR.own, hR.now, hR.kept, hR.chs, fun _ _ => ?_⟩, ?_⟩
        · show (M.left : Int) - 1 = ((M.left - 1 : Nat) : Int)
          omega
        · rw [show (((M.left : Nat) : Int) == 0) = M.down by rw [h]; simp [h0]] at hS2
          exact hS2
    · refine ⟨M.down, hS.load (b := d) (o := 5) List.mem_cons_self rfl (by kernel_rfl), ?_⟩
      have hr : M.ready = (0, M) := by simp [MDisk.ready, h, h']
      rw [hr, h]
      exact ⟨rfl, R.lf, hR, hS⟩
  · have h : M.down = true := by simpa using h
    refine ⟨M.down, hS.load (b := d) (o := 5) List.mem_cons_self rfl (by kernel_rfl), ?_⟩
    have hr : M.ready = (40, M) := by simp [MDisk.ready, h]
    rw [hr, h]
    exact ⟨rfl, R.lf, hR, hS⟩

theorem bsC (c : MChange) (fi : Int) (h : (if c.gone = noName then (c.file : Int) else 0) = fi) : bsV Pr 157 1 [(0, .agg #[.string c.gone, .string c.new, .int .i64 fi])] = some (encC c) := by
  subst h
  unfold encC
  generalize (if c.gone = noName then (c.file : Int) else 0) = fi
  kernel_rfl

/-- does. -/
theorem k142 {E w : World} {L I : List Chunk} {M : MDisk} {R : RS} {d : Nat} (hS : Sep E w (R.chunks M d ++ L)) (hR : RRep R M I) (hI : ∀ c ∈ I, c ∈ L) (hn : M.now.length ≤ 100000000000) (hc : M.changes.length ≤ 1000000000) (he : NoEmpty M.now) {c : MChange} (hf : Fits M.now c) {fi : Int} (hfi : (if c.gone = noName then (c.file : Int) else 0) = fi) :
    Calls Pr 142 #[.pointer (some ⟨d, 0, none⟩), .agg #[.string c.gone, .string c.new, .int .i64 fi]] w fun e w' => ∃ (R' : RS) (C : List Chunk), e = .returned (.tuple #[]) ∧ RRep R' (M.chg c) (C ++ I) ∧ Sep E w' (R'.chunks (M.chg c) d ++ (C ++ L)) := by
  refine call142 ?_
  unfold ir142
  obtain ⟨b, w1, h1, hS1⟩ := hS.newVar (t := 166) (v := .agg #[.string c.gone, .string c.new, .int .i64 fi])
  let X : Chunk := (b, .cells #[.string c.gone, .string c.new, .int .i64 fi] 166 (0, 0))
  have hS1 : Sep E w1 (X :: (R.chunks M d ++ L)) := hS1
  have hI1 : ∀ x ∈ I, x ∈ X :: (R.chunks M d ++ L) := fun x hx => by simp [hI x hx]
  refine ⟨_, w1, h1, fun w => Sep E w (X :: (R.chunks M d ++ L)), hS1.drew, ?_⟩
  refine ⟨R.sn, fun w hw => hw.load (b := d) (o := 1) (List.mem_cons_of_mem _ List.mem_cons_self) rfl (by kernel_rfl), c.gone, c.new, fi, fun w hw => hw.loadS (b := b) (o := 0) (n := 3) List.mem_cons_self (by kernel_rfl) (by kernel_rfl) rfl (by simp), ?_⟩
  have hk := k104 hS1.drew hR.now hI1 hn he hf
  rw [hfi] at hk
  refine hk.mono ?_
  rintro _ w2 ⟨s2, C2, G2, rfl, ho2, hS2⟩
  refine ⟨s2, rfl, fun _ => True, trivial, ?_⟩
  have hS2' : Sep E w2 (rChunkD M d R.sf R.sn R.sk R.sc R.lf :: (X :: (R.CF ++ (C2 ++ (G2 ++ L))))) := hS2.weak (by intro f; simp only [RS.chunks, ms_append, ms_cons, ms_nil]; omega)
  obtain ⟨w3, h3, hS3⟩ := Sep.store (cs := [slV R.sf, slV R.sn, slV R.sk, slV R.sc, .int .i64 (M.room : Int), .bool M.down, .bool M.doomed, .int .i64 R.lf]) (o := 1) (n := 1) (v := slV s2) (t := 156) hS2' (by kernel_rfl) rfl (by simp) (by simp [Value.cells, Value.oneCell'])
  let F : List Chunk := rChunkD M d R.sf s2 R.sk R.sc R.lf :: (X :: (R.CF ++ (C2 ++ (G2 ++ L))))
  have hS3 : Sep E w3 F := hS3
  let S : World → Prop := fun w => Sep E w F
  refine ⟨w3, h3, fun _ => True, trivial, S, hS3.drew, ?_⟩
  refine ⟨R.sc, fun w hw => Sep.load (L := F) hw (b := d) (o := 3) List.mem_cons_self rfl (by kernel_rfl), c.gone, c.new, fi, fun w hw => Sep.loadS (L := F) hw (b := b) (o := 0) (n := 3) (List.mem_cons_of_mem _ List.mem_cons_self) (by kernel_rfl) (by kernel_rfl) rfl (by simp), ?_⟩
  have hF : ∀ {w : World} {C : List Chunk}, Sep E w (C ++ F) → S w := fun h => h.weak (by intro f; simp only [ms_append, ms_cons, ms_nil]; omega)
  have hIF : ∀ x ∈ I, x ∈ F := fun x hx => by simp [F, hI x hx]
  have hsz := RdG.size encC_ok hR.chs
  -- the end
  have fin : ∀ (w : World) (s7 : SV) (C7 G7 : List Chunk), Own 166 3 s7 ((M.changes ++ [c]).flatMap encC) C7 → Sep E w (C7 ++ (G7 ++ F)) →
      ∃ (w8 : World), Sem.run Pr (Instr.storeAt 157 (.pointer (some (Addr.add ⟨d, 0, none⟩ 3))) (.slice s7.a s7.len s7.cap)) w = .ok () w8 ∧ ∃ (S9 : World → Prop), S9 w8 ∧ ∃ (R' : RS) (C : List Chunk), Ending.returned (.tuple #[]) = .returned (.tuple #[]) ∧ RRep R' (M.chg c) (C ++ I) ∧ Sep E w8 (R'.chunks (M.chg c) d ++ (C ++ L)) := by
    intro w s7 C7 G7 ho hS7
    have hS7' : Sep E w (rChunkD M d R.sf s2 R.sk R.sc R.lf :: (R.CF ++ ((C7 ++ (C2 ++ (X :: (G2 ++ G7)))) ++ L))) := hS7.weak (by intro f; simp only [F, ms_append, ms_cons, ms_nil]; omega)
    obtain ⟨w8, h8, hS8⟩ := Sep.store (cs := [slV R.sf, slV s2, slV R.sk, slV R.sc, .int .i64 (M.room : Int), .bool M.down, .bool M.doomed, .int .i64 R.lf]) (o := 3) (n := 1) (v := slV s7) (t := 157) hS7' (by kernel_rfl) rfl (by simp) (by simp [Value.cells, Value.oneCell'])
    refine ⟨w8, h8, fun _ => True, trivial, { R with sn := s2, sc := s7 }, C7 ++ (C2 ++ (X :: (G2 ++ G7))), rfl, ⟨hR.files, fun r hr => (hR.bytes r hr).right _, hR.own, ?_, hR.kept.right _, ?_, hR.left⟩, hS8⟩
    · exact ho2.rds.mono fun x hx => by simp [hx]
    · exact ho.rds.mono fun x hx => by simp [hx]
  refine ⟨?_, ?_⟩
  · obtain ⟨s4, w4, C4, h4, ho4, hS4⟩ := Sep.litG0 (α := MChange) (enc := encC) ti157 hS3.drew (by kernel_rfl)
    refine ⟨s4, w4, h4, S, fun w hw => hw, hF hS4, ?_, ?_⟩
    · obtain ⟨s5, w5, C5, h5, ho5, hS5⟩ := Sep.appG (ys := M.changes) (ty := 157) encC_ok ti157 hS4 ho4 ((hR.chs.mono hIF).right _) (by simp; omega) (by simp; unfold maxLen; omega)
      refine ⟨s5, w5, h5, S, fun w hw => hw, hF hS5, ?_⟩
      obtain ⟨s6, w6, C6, h6, ho6, hS6⟩ := Sep.litG1 encC_ok ti157 hS5 (bsC c fi hfi)
      have hS6' : Sep E w6 (C5 ++ (C6 ++ F)) := hS6.weak (by intro f; simp only [ms_append, ms_cons, ms_nil]; omega)
      refine ⟨s6, w6, h6, S, fun w hw => hw, hS6'.weak (by intro f; simp only [ms_append, ms_cons, ms_nil]; omega), ?_⟩
      obtain ⟨s7, w7, C7, h7, ho7, hS7⟩ := Sep.appG (ys := [c]) (ty := 157) encC_ok ti157 hS6' ho5 ((ho6.rds.left _).right _) (by simp; omega) (by simp; unfold maxLen; omega)
      refine ⟨s7, w7, h7, S, fun w hw => hw, hS7.weak (by intro f; simp only [ms_append, ms_cons, ms_nil]; omega), ?_⟩
      exact fin w7 s7 C7 C6 (by simpa using ho7) hS7
    · obtain ⟨s6, w6, C6, h6, ho6, hS6⟩ := Sep.litG1 encC_ok ti157 hS4 (bsC c fi hfi)
      have hS6' : Sep E w6 (C4 ++ (C6 ++ F)) := hS6.weak (by intro f; simp only [ms_append, ms_cons, ms_nil]; omega)
      refine ⟨s6, w6, h6, S, fun w hw => hw, hS6'.weak (by intro f; simp only [ms_append, ms_cons, ms_nil]; omega), ?_⟩
      obtain ⟨s5, w5, C5, h5, ho5, hS5⟩ := Sep.appG (ys := M.changes) (ty := 157) encC_ok ti157 hS6' ho4 (((hR.chs.mono hIF).right _).right _) (by simp; omega) (by simp; unfold maxLen; omega)
      refine ⟨s5, w5, h5, S, fun w hw => hw, hS5.weak (by intro f; simp only [ms_append, ms_cons, ms_nil]; omega), ?_⟩
      obtain ⟨s7, w7, C7, h7, ho7, hS7⟩ := Sep.appG (ys := [c]) (ty := 157) encC_ok ti157 hS5 ho5 ((ho6.rds.left _).right _) (by simp; omega) (by simp; unfold maxLen; omega)
      refine ⟨s7, w7, h7, S, fun w hw => hw, hS7.weak (by intro f; simp only [ms_append, ms_cons, ms_nil]; omega), ?_⟩
      exact fin w7 s7 C7 C6 (by simpa using ho7) hS7
  · obtain ⟨s6, w6, C6, h6, ho6, hS6⟩ := Sep.litG1 encC_ok ti157 hS3.drew (bsC c fi hfi)
    refine ⟨s6, w6, h6, S, fun w hw => hw, hF hS6, ?_⟩
    obtain ⟨s4, w4, C4, h4, ho4, hS4⟩ := Sep.litG0 (α := MChange) (enc := encC) ti157 hS6 (by kernel_rfl)
    refine ⟨s4, w4, h4, S, fun w hw => hw, hS4.weak (by intro f; simp only [ms_append, ms_cons, ms_nil]; omega), ?_⟩
    obtain ⟨s5, w5, C5, h5, ho5, hS5⟩ := Sep.appG (ys := M.changes) (ty := 157) encC_ok ti157 hS4 ho4 (((hR.chs.mono hIF).right _).right _) (by simp; omega) (by simp; unfold maxLen; omega)
    refine ⟨s5, w5, h5, S, fun w hw => hw, hS5.weak (by intro f; simp only [ms_append, ms_cons, ms_nil]; omega), ?_⟩
    obtain ⟨s7, w7, C7, h7, ho7, hS7⟩ := Sep.appG (ys := [c]) (ty := 157) encC_ok ti157 hS5 ho5 ((ho6.rds.left _).right _) (by simp; omega) (by simp; unfold maxLen; omega)
    refine ⟨s7, w7, h7, S, fun w hw => hw, hS7.weak (by intro f; simp only [ms_append, ms_cons, ms_nil]; omega), ?_⟩
    exact fin w7 s7 C7 C6 (by simpa using ho7) hS7

end Go.Proofs.Ytonjaaljnjjjcaa

/- The reference's disk: contracts of what can be done. Conditions: as each lemma says. -/
set_option linter.unusedVariables false
set_option linter.unusedSimpArgs false
namespace Go.Proofs.Ytonjaaljnjjjcaa
open Go Go.RowKit

theorem z159 : (Pr.info? 159).bind (·.zero) = some (.agg #[.slice none 0 0, .slice none 0 0, .slice none 0 0, .slice none 0 0, .int .i64 0, .bool false, .bool false, .int .i64 0]) := by kernel_rfl

/-- New. -/
theorem k36 {E w : World} {L : List Chunk} (hS : Sep E w L) (room : Int) :
    Calls Pr 36 #[.int .i64 room] w fun e w' => ∃ (R : RS) (d : Nat), e = .returned (.pointer (some ⟨d, 0, none⟩)) ∧ RRep R (MDisk.new room) [] ∧ Sep E w' (R.chunks (MDisk.new room) d ++ L) := by
  refine call36 ?_
  unfold ir36
  obtain ⟨b, w1, h1, hS1⟩ := hS.newVar (t := 159) (v := .agg #[(.slice none 0 0), (.slice none 0 0), (.slice none 0 0), (.slice none 0 0), (.int .i64 (if 0 > room then 0 else room)), (.bool false), (.bool false), (.int .i64 0)])
  refine ⟨_, w1, h1, ⟨[], SV.nil, [], SV.nil, SV.nil, SV.nil, 0⟩, b, rfl, ⟨rfl, (fun r hr => by cases hr), Own.nil _ _, RdS.none _ _, RdS.none _ _, RdS.none _ _, fun h => by cases h⟩, ?_⟩
  have hr : (if 0 > room then 0 else room) = (((MDisk.new room).room : Nat) : Int) := by
    show _ = ((room.toNat : Nat) : Int)
    split <;> omega
  rw [hr] at hS1
  exact hS1

/-- Doom. -/
theorem k59 {E w : World} {L I : List Chunk} {M : MDisk} {R : RS} {d : Nat} (hS : Sep E w (R.chunks M d ++ L)) (hR : RRep R M I) (n : Int) :
    Calls Pr 59 #[.pointer (some ⟨d, 0, none⟩), .int .i64 n] w fun e w' => ∃ R' : RS, e = .returned (.int .i64 (M.doom n).1) ∧ RRep R' (M.doom n).2 I ∧ Sep E w' (R'.chunks (M.doom n).2 d ++ L) := by
  refine call59 ?_
  unfold ir59
  unfold MDisk.doom
  refine brc_intro (fun h => ?_) (fun h => ?_)
  · have h : n < 0 := by simpa using h
    rw [if_pos h]
    exact ⟨R, rfl, hR, hS⟩
  · have h : ¬ n < 0 := by simpa using h
    rw [if_neg h]
    obtain ⟨w1, h1, hS1⟩ := Sep.store (cs := [slV R.sf, slV R.sn, slV R.sk, slV R.sc, .int .i64 (M.room : Int), .bool M.down, .bool M.doomed, .int .i64 R.lf]) (o := 6) (n := 1) (v := .bool true) (t := 4) hS (by kernel_rfl) rfl (by simp) (by simp [Value.cells, Value.oneCell'])
    refine ⟨w1, h1, ?_⟩
    obtain ⟨w2, h2, hS2⟩ := Sep.store (o := 7) (n := 1) (v := .int .i64 n) (t := 3) hS1 (by kernel_rfl) rfl (by simp [spl, Value.cells]) (by simp [Value.cells, Value.oneCell'])
    exact ⟨w2, h2, { R with lf := n }, rfl, ⟨hR.files, hR.bytes, hR.own, hR.now, hR.kept, hR.chs, fun _ _ => by show n = ((n.toNat : Nat) : Int); omega⟩, hS2⟩

/-- Grow. -/
theorem k102 {E w : World} {L I : List Chunk} {M : MDisk} {R : RS} {d : Nat} (hS : Sep E w (R.chunks M d ++ L)) (hR : RRep R M I) (n : Int) :
    Calls Pr 102 #[.pointer (some ⟨d, 0, none⟩), .int .i64 n] w fun e w' => ∃ R' : RS, e = .returned (.int .i64 (M.grow n).1) ∧ RRep R' (M.grow n).2 I ∧ Sep E w' (R'.chunks (M.grow n).2 d ++ L) := by
  refine call102 ?_
  unfold ir102
  unfold MDisk.grow
  refine brc_intro (fun h => ?_) (fun h => ?_)
  · have h : n < 0 := by simpa using h
    rw [if_pos h]
    exact ⟨R, rfl, hR, hS⟩
  · have h : ¬ n < 0 := by simpa using h
    rw [if_neg h]
    obtain ⟨w1, h1, hS1⟩ := Sep.store (cs := [slV R.sf, slV R.sn, slV R.sk, slV R.sc, .int .i64 (M.room : Int), .bool M.down, .bool M.doomed, .int .i64 R.lf]) (o := 4) (n := 1) (v := .int .i64 n) (t := 3) hS (by kernel_rfl) rfl (by simp) (by simp [Value.cells, Value.oneCell'])
    refine ⟨w1, h1, R, rfl, ⟨hR.files, hR.bytes, hR.own, hR.now, hR.kept, hR.chs, hR.left⟩, ?_⟩
    have hn : n = ((n.toNat : Nat) : Int) := by omega
    rw [hn] at hS1
    exact hS1

/-- A file. -/
theorem RRep.file {R : RS} {M : MDisk} {I : List Chunk} (h : RRep R M I) {i : Nat} (hi : i < M.files.length) : ∃ A r B, R.fs = A ++ r :: B ∧ A.length = i ∧ R.fs[i]? = some r ∧ M.fileAt i = r.2 ∧ r ∈ R.fs ∧ r.2 ∈ M.files := by
  have hi' : i < R.fs.length := by
    have := congrArg List.length h.files
    rw [List.length_map] at this
    omega
  obtain ⟨A, r, B, h1, h2, h3⟩ := split_at hi'
  refine ⟨A, r, B, h1, h2, h3, ?_, by rw [h1]; simp, by rw [← h.files, h1]; simp⟩
  unfold MDisk.fileAt
  rw [← h.files]
  simp [h3]

theorem RRep.turn {R : RS} {M : MDisk} {I : List Chunk} (hR : RRep R M I) {A B : List (SV × MFile)} {r : SV × MFile} (hfs : R.fs = A ++ r :: B) {s : SV} (g : MFile → MFile) (hr : RdB I s (g r.2).bytes) {C : List Chunk} (ho : Own 169 2 R.sf ((A ++ (s, g r.2) :: B).flatMap encF) C) :
    RRep { R with fs := A ++ (s, g r.2) :: B, CF := C } (M.setFile A.length g) I := by
  refine ⟨?_, fun x hx => ?_, ho, hR.now, hR.kept, hR.chs, hR.left⟩
  · have := hR.files
    rw [hfs] at this
    show (A ++ (s, g r.2) :: B).map (·.2) = M.files.modify A.length g
    rw [← this, List.map_append, List.map_append, List.map_cons, List.map_cons]
    have hl : A.length = (A.map (·.2)).length := by simp
    rw [hl, modify_mid]
  · have hx : x ∈ A ++ (s, g r.2) :: B := hx
    simp only [List.mem_append, List.mem_cons] at hx
    rcases hx with hx | rfl | hx
    · exact hR.bytes x (by rw [hfs]; simp [hx])
    · exact hr
    · exact hR.bytes x (by rw [hfs]; simp [hx])

theorem rChunkD_set (M : MDisk) (i : Nat) (g : MFile → MFile) (d : Nat) (sf sn sk sc : SV) (lf : Int) : rChunkD (M.setFile i g) d sf sn sk sc lf = rChunkD M d sf sn sk sc lf := rfl
theorem rfind_none {M : MDisk} {n : ByteArray} (h : M.ready.1 = 0) (hf : findN n M.ready.2.now = none) : M.find n = (2, none, M.ready.2) := by
  unfold MDisk.find
  rw [if_neg (by simpa using h), hf]
theorem rfind_some {M : MDisk} {n : ByteArray} {i : Nat} (h : M.ready.1 = 0) (hf : findN n M.ready.2.now = some i) : M.find n = (0, some i, M.ready.2) := by
  unfold MDisk.find
  rw [if_neg (by simpa using h), hf]
theorem findI_none {k : ByteArray} {nm : Names} (h : findN k nm = none) : findI k nm = -1 := by unfold findI; rw [h]
theorem findI_some {k : ByteArray} {nm : Names} {i : Nat} (h : findN k nm = some i) : findI k nm = (i : Int) := by unfold findI; rw [h]
theorem rfind_bad {M : MDisk} {n : ByteArray} (h : M.ready.1 ≠ 0) : M.find n = (40, none, M.ready.2) := by
  unfold MDisk.find
  rw [if_pos h, ready_40 h]

theorem small_now {M : MDisk} {n b : Nat} (hg : M.Good) (hm : M.Small n b) : M.now.length ≤ n := Nat.le_trans (now_len hg) hm.names

/-- Read. -/
theorem k64 {E w : World} {L I : List Chunk} {M : MDisk} {R : RS} {d n b : Nat} (hS : Sep E w (R.chunks M d ++ L)) (hR : RRep R M I) (hI : ∀ c ∈ I, c ∈ L) (hg : M.Good) (hm : M.Small n b) (hn : n ≤ 1000000) (hb : b ≤ 1000000000) (x : ByteArray) :
    Calls Pr 64 #[.pointer (some ⟨d, 0, none⟩), .string x] w fun e w' => ∃ (s : SV) (C : List Chunk) (R' : RS), e = .returned (.tuple #[.slice s.a s.len s.cap, .int .i64 (M.read x).1]) ∧ RdB C s (M.read x).2.1 ∧ RRep R' (M.read x).2.2 I ∧ Sep E w' (R'.chunks (M.read x).2.2 d ++ (C ++ L)) := by
  refine call64 ?_
  unfold ir64
  refine (k126 hm.left hS hR).mono ?_
  rintro _ w1 ⟨rfl, lf, hR1, hS1⟩
  generalize ({ R with lf := lf } : RS) = R1 at hR1 hS1
  have hnl := small_now hg.ready hm.ready
  refine ⟨_, rfl, ?_⟩
  unfold MDisk.read
  refine brc_intro (fun h => ?_) (fun h => ?_)
  · have h : M.ready.1 ≠ 0 := by simpa using h
    rw [rfind_bad h]
    exact ⟨SV.nil, [], R1, rfl, RdS.none _ _, hR1, hS1⟩
  · have h : M.ready.1 = 0 := by simpa using h
    refine ⟨R1.sn, hS1.load (b := d) (o := 1) List.mem_cons_self rfl (by kernel_rfl), ?_⟩
    refine (k105 hS1 hR1.now (fun c hc => List.mem_append_right _ (hI c hc)) (by omega) x).mono ?_
    rintro _ w2 ⟨rfl, rfl⟩
    refine ⟨_, rfl, ?_⟩
    cases hf : findN x M.ready.2.now with
    | none =>
      rw [rfind_none h hf, findI_none hf]
      exact brc_true (by simp) ⟨SV.nil, [], R1, rfl, RdS.none _ _, hR1, hS1⟩
    | some i =>
      rw [rfind_some h hf, findI_some hf]
      refine brc_false (by simp) ?_
      have hi : i < M.ready.2.files.length := hg.ready.nowB _ (mem_of_findN hf)
      obtain ⟨A, r, B, hfs, hA, hx, hfa, hr, hrm⟩ := hR1.file hi
      obtain ⟨s2, w3, C3, h3, ho3, hS3⟩ := Sep.litG0 (α := UInt8) (enc := fun b => [byteV b]) tiB hS1 (by kernel_rfl)
      have ho3 : Own 5 1 s2 (([] : List UInt8).map byteV) C3 := ho3
      refine ⟨s2, w3, h3, R1.sf, hS3.load (b := d) (o := 0) (List.mem_append_right _ List.mem_cons_self) rfl (by kernel_rfl), ?_⟩
      have hfl := RdG.size encF_ok hR1.own.rds
      have hil := (List.getElem?_eq_some_iff.1 hx).1
      obtain ⟨a, ha, _, hat⟩ := RdG.at_ encF_ok hR1.own.rds hx
      rw [ha]
      refine ⟨⟨by omega, by omega⟩, r.1, hat (j := 0) (v := slV r.1) (t := 26) rfl (by kernel_rfl) hS3 (fun c hc => by simp [RS.chunks, hc]), ?_⟩
      have hrb := hm.ready.each _ hrm
      obtain ⟨s5, w4, C4, h4, ho4, hS4⟩ := Sep.appB (ty := 26) hS3 ho3 (((hR1.bytes r hr).mono hI).mono (fun c hc => by simp [hc])) (by simp; omega)
      refine ⟨s5, w4, h4, s5, C4, R1, rfl, ?_, hR1, hS4.weak (by intro f; simp only [ms_append, ms_cons, ms_nil]; omega)⟩
      show RdB C4 s5 (M.ready.2.fileAt i).bytes
      rw [hfa]
      simpa using ho4.rds

/-- Names. -/
theorem k101 {E w : World} {L I : List Chunk} {M : MDisk} {R : RS} {d n b : Nat} (hS : Sep E w (R.chunks M d ++ L)) (hR : RRep R M I) (hI : ∀ c ∈ I, c ∈ L) (hg : M.Good) (hm : M.Small n b) (hn : n ≤ 1000000) :
    Calls Pr 101 #[.pointer (some ⟨d, 0, none⟩)] w fun e w' => ∃ (s : SV) (C : List Chunk) (R' : RS), e = .returned (.tuple #[.slice s.a s.len s.cap, .int .i64 M.names.1]) ∧ RdS C 1 s (M.names.2.1.flatMap encK) ∧ RRep R' M.names.2.2 I ∧ Sep E w' (R'.chunks M.names.2.2 d ++ (C ++ L)) := by
  refine call101 ?_
  unfold ir101
  refine (k126 hm.left hS hR).mono ?_
  rintro _ w1 ⟨rfl, lf, hR1, hS1⟩
  generalize ({ R with lf := lf } : RS) = R1 at hR1 hS1
  have hnl := small_now hg.ready hm.ready
  refine ⟨_, rfl, ?_⟩
  unfold MDisk.names
  refine brc_intro (fun h => ?_) (fun h => ?_)
  · have h : M.ready.1 ≠ 0 := by simpa using h
    rw [if_pos h, ready_40 h]
    exact ⟨SV.nil, [], R1, rfl, RdS.none _ _, hR1, hS1⟩
  · have h : M.ready.1 = 0 := by simpa using h
    rw [if_neg (by simpa using h)]
    generalize M.ready.2 = M1 at *
    have hsz := RdG.size encN_ok hR1.now
    refine ⟨fun k σ w2 => ∃ (j : Nat) (C G : List Chunk), j ≤ M1.now.length ∧ k = M1.now.length - j ∧ σ.1 = (j : Int) ∧ Own 9 1 σ.2.1 (((M1.now.take j).map (·.1)).flatMap encK) C ∧ Sep E w2 (C ++ (G ++ (R1.chunks M1 d ++ L))), M1.now.length, ⟨0, [], [], Nat.zero_le _, rfl, rfl, Own.nil _ _, hS1⟩, ?_⟩
    rintro k ⟨jj, s', u⟩ w2 ⟨j, C, G, hj, rfl, hjj, ho, hS2⟩ _
    dsimp only at hjj ho ⊢
    subst hjj
    have md : R1.chunks M1 d ++ L = rChunkD M1 d R1.sf R1.sn R1.sk R1.sc R1.lf :: (R1.CF ++ L) := rfl
    have mem : rChunkD M1 d R1.sf R1.sn R1.sk R1.sc R1.lf ∈ C ++ (G ++ (R1.chunks M1 d ++ L)) := by rw [md]; simp
    refine ⟨R1.sn, hS2.load (b := d) (o := 1) mem rfl (by kernel_rfl), brc_intro (fun h => ?_) (fun h => ?_)⟩
    · have h : j < M1.now.length := by simp at h; omega
      refine ⟨R1.sn, hS2.load (b := d) (o := 1) mem rfl (by kernel_rfl), ?_⟩
      have hx : M1.now[j]? = some M1.now[j] := List.getElem?_eq_getElem h
      generalize M1.now[j] = x at hx
      obtain ⟨a, ha, _, hat⟩ := RdG.at_ encN_ok hR1.now hx
      rw [ha]
      refine ⟨⟨by omega, by omega⟩, x.1, hat (j := 0) (v := .string x.1) (t := 9) rfl (by kernel_rfl) hS2 (fun c hc => by simp [hI c hc]), ?_⟩
      obtain ⟨s2, w3, h3, s3, w4, C', G', h4, ho4, hS4⟩ := Sep.pushG encK_ok ti78 (x := x.1) (v := .string x.1) (ty := 78) hS2 ho (by kernel_rfl) (by simp; omega) (by simp; unfold maxLen; omega)
      refine ⟨s2, w3, h3, s3, w4, h4, M1.now.length - (j + 1), by omega, j + 1, C', G' ++ G, by omega, rfl, by rw [w64 (by omega) (by omega)]; rfl, ?_, hS4.weak (by intro f; simp only [ms_append, ms_cons, ms_nil]; omega)⟩
      rw [take_at hx, List.map_append]
      exact ho4
    · have h : j = M1.now.length := by simp at h; omega
      subst h
      rw [List.take_length] at ho
      exact ⟨s', C ++ G, R1, rfl, ho.rds.left G, hR1, hS2.weak (by intro f; simp only [ms_append, ms_cons, ms_nil]; omega)⟩

/-- Sync. -/
theorem k97 {E w : World} {L I : List Chunk} {M : MDisk} {R : RS} {d n b : Nat} (hS : Sep E w (R.chunks M d ++ L)) (hR : RRep R M I) (hI : ∀ c ∈ I, c ∈ L) (hg : M.Good) (hm : M.Small n b) (hn : n ≤ 1000000) (x : ByteArray) :
    Calls Pr 97 #[.pointer (some ⟨d, 0, none⟩), .string x] w fun e w' => ∃ R' : RS, e = .returned (.int .i64 (M.sync x).1) ∧ RRep R' (M.sync x).2 I ∧ Sep E w' (R'.chunks (M.sync x).2 d ++ L) := by
  refine call97 ?_
  unfold ir97
  refine (k126 hm.left hS hR).mono ?_
  rintro _ w1 ⟨rfl, lf, hR1, hS1⟩
  generalize ({ R with lf := lf } : RS) = R1 at hR1 hS1
  have hnl := small_now hg.ready hm.ready
  refine ⟨_, rfl, ?_⟩
  unfold MDisk.sync
  refine brc_intro (fun h => ?_) (fun h => ?_)
  · have h : M.ready.1 ≠ 0 := by simpa using h
    rw [rfind_bad h]
    exact ⟨R1, rfl, hR1, hS1⟩
  · have h : M.ready.1 = 0 := by simpa using h
    refine ⟨R1.sn, hS1.load (b := d) (o := 1) List.mem_cons_self rfl (by kernel_rfl), ?_⟩
    refine (k105 hS1 hR1.now (fun c hc => List.mem_append_right _ (hI c hc)) (by omega) x).mono ?_
    rintro _ w2 ⟨rfl, rfl⟩
    refine ⟨_, rfl, ?_⟩
    cases hf : findN x M.ready.2.now with
    | none =>
      rw [rfind_none h hf, findI_none hf]
      exact brc_true (by simp) ⟨R1, rfl, hR1, hS1⟩
    | some i =>
      rw [rfind_some h hf, findI_some hf]
      refine brc_false (by simp) ?_
      have hi : i < M.ready.2.files.length := hg.ready.nowB _ (mem_of_findN hf)
      obtain ⟨A, r, B, hfs, hA, hx, hfa, hr, hrm⟩ := hR1.file hi
      have hfl := RdG.size encF_ok hR1.own.rds
      have hil := (List.getElem?_eq_some_iff.1 hx).1
      obtain ⟨a, ha, _, hat⟩ := RdG.at_ encF_ok hR1.own.rds hx
      let F := R1.chunks M.ready.2 d ++ L
      refine ⟨fun w => Sep E w F, hS1.drew, R1.sf, fun w hw => hw.load (b := d) (o := 0) List.mem_cons_self rfl (by kernel_rfl), R1.sf, fun w hw => hw.load (b := d) (o := 0) List.mem_cons_self rfl (by kernel_rfl), ?_⟩
      rw [ha]
      refine ⟨⟨by omega, by omega⟩, r.1, fun w hw => hat (j := 0) (v := slV r.1) (t := 26) rfl (by kernel_rfl) hw (fun c hc => by simp [F, RS.chunks, hc]), ⟨by omega, by omega⟩, ?_⟩
      have hS2 : Sep E (World.drew w2) (R1.CF ++ (rChunkD M.ready.2 d R1.sf R1.sn R1.sk R1.sc R1.lf :: L)) := hS1.drew.weak (by intro f; simp only [RS.chunks, ms_append, ms_cons, ms_nil]; omega)
      have hfl2 := encF_ok.flat R1.fs
      obtain ⟨a', ha', w3, C3, h3, ho3, hS3⟩ := Sep.storeOwn (j := i * 2 + 1) (m := 1) (v := .int .i64 ((r.1.len : Nat) : Int)) (t := 3) hS2 hR1.own (by omega) (by omega) (by kernel_rfl) rfl (by simp [Value.cells, Value.oneCell'])
      rw [ha] at ha'
      rw [← Option.some.inj ha'] at h3
      refine ⟨w3, by rw [addA]; exact h3, fun _ => True, trivial, ?_⟩
      have hsz := (hR1.bytes r hr).size
      have ho3' : Own 169 2 R1.sf ((A ++ (r.1, (fun f : MFile => (⟨f.bytes, f.bytes.length⟩ : MFile)) r.2) :: B).flatMap encF) C3 := by
        rw [hfs, ← hA, spl_enc encF_ok A B r (r.1, ⟨r.2.bytes, r.2.bytes.length⟩) (by simp [Value.cells]) (by rw [hsz]; rfl)] at ho3
        exact ho3
      refine ⟨_, rfl, hA ▸ hR1.turn hfs _ (hR1.bytes r hr) ho3', ?_⟩
      exact hS3.weak (by intro f; simp only [RS.chunks, ms_append, ms_cons, ms_nil, rChunkD_set]; omega)

end Go.Proofs.Ytonjaaljnjjjcaa

/- The reference's disk: contracts of what turns names; Clone. Conditions: as each lemma says. -/
set_option linter.unusedVariables false
set_option linter.unusedSimpArgs false
namespace Go.Proofs.Ytonjaaljnjjjcaa
open Go Go.RowKit

theorem small_ch {M : MDisk} {n b : Nat} (hm : M.Small n b) : M.changes.length ≤ n := by
  have := hm.names
  omega

/-- Create. -/
theorem k96 {E w : World} {L I : List Chunk} {M : MDisk} {R : RS} {d n b : Nat} (hS : Sep E w (R.chunks M d ++ L)) (hR : RRep R M I) (hI : ∀ c ∈ I, c ∈ L) (hg : M.Good) (hm : M.Small n b) (hn : n ≤ 1000000) (x : ByteArray) :
    Calls Pr 96 #[.pointer (some ⟨d, 0, none⟩), .string x] w fun e w' => ∃ (R' : RS) (C : List Chunk), e = .returned (.int .i64 (M.create x).1) ∧ RRep R' (M.create x).2 (C ++ I) ∧ Sep E w' (R'.chunks (M.create x).2 d ++ (C ++ L)) := by
  refine call96 ?_
  unfold ir96
  refine (k126 hm.left hS hR).mono ?_
  rintro _ w1 ⟨rfl, lf, hR1, hS1⟩
  generalize ({ R with lf := lf } : RS) = R1 at hR1 hS1
  have hnl := small_now hg.ready hm.ready
  have hcl := small_ch hm.ready
  refine ⟨_, rfl, ?_⟩
  unfold MDisk.create
  refine brc_intro (fun h => ?_) (fun h => ?_)
  · have h : M.ready.1 ≠ 0 := by simpa using h
    rw [if_pos h, ← ready_40 h]
    exact ⟨R1, [], rfl, hR1, hS1⟩
  have h : M.ready.1 = 0 := by simpa using h
  rw [if_neg (by simpa using h)]
  refine (k141 w1 x).mono ?_
  rintro _ _ ⟨rfl, rfl⟩
  refine ⟨_, rfl, brc_intro (fun h2 => ?_) (fun h2 => ?_)⟩
  · have h2 : MDisk.right x = false := by simpa using h2
    rw [if_pos h2]
    exact ⟨R1, [], rfl, hR1, hS1⟩
  have h2 : MDisk.right x = true := by simpa using h2
  rw [if_neg (by simp [h2])]
  refine ⟨R1.sn, hS1.load (b := d) (o := 1) List.mem_cons_self rfl (by kernel_rfl), ?_⟩
  refine (k105 hS1 hR1.now (fun c hc => List.mem_append_right _ (hI c hc)) (by omega) x).mono ?_
  rintro _ w2 ⟨rfl, rfl⟩
  refine ⟨_, rfl, ?_⟩
  cases hf : findN x M.ready.2.now with
  | some i =>
    rw [findI_some hf]
    exact brc_true (by simp) ⟨R1, [], rfl, hR1, hS1⟩
  | none =>
    rw [findI_none hf]
    refine brc_false (by simp) ?_
    rw [if_neg (by simp)]
    obtain ⟨s2, w3, C3, h3, ho3, hS3⟩ := Sep.litG0 (α := SV × MFile) (enc := encF) ti155 hS1 (by kernel_rfl)
    refine ⟨s2, w3, h3, R1.sf, hS3.load (b := d) (o := 0) (List.mem_append_right _ List.mem_cons_self) rfl (by kernel_rfl), ?_⟩
    have hfl := congrArg List.length hR1.files
    rw [List.length_map] at hfl
    have hfn := hm.ready.files
    obtain ⟨s4, w4, C4, h4, ho4, hS4⟩ := Sep.appG (ys := R1.fs) (ty := 155) encF_ok ti155 hS3 ho3 (hR1.own.rds.mono fun c hc => by simp [RS.chunks, hc]) (by simp; omega) (by simp; unfold maxLen; omega)
    refine ⟨s4, w4, h4, ?_⟩
    obtain ⟨s5, w5, h5, s6, w6, C6, G6, h6, ho6, hS6⟩ := Sep.pushG encF_ok ti155 (x := (SV.nil, (⟨[], 0⟩ : MFile))) (v := .agg #[.slice none 0 0, .int .i64 0]) (ty := 155) hS4 ho4 (by kernel_rfl) (by simp; omega) (by simp; unfold maxLen; omega)
    refine ⟨s5, w5, h5, s6, w6, h6, ?_⟩
    have hS6' : Sep E w6 (rChunkD M.ready.2 d R1.sf R1.sn R1.sk R1.sc R1.lf :: (C6 ++ ((R1.CF ++ G6) ++ L))) := hS6.weak (by intro f; simp only [RS.chunks, ms_append, ms_cons, ms_nil]; omega)
    obtain ⟨w7, h7, hS7⟩ := Sep.store (cs := [slV R1.sf, slV R1.sn, slV R1.sk, slV R1.sc, .int .i64 (M.ready.2.room : Int), .bool M.ready.2.down, .bool M.ready.2.doomed, .int .i64 R1.lf]) (o := 0) (n := 1) (v := slV s6) (t := 155) hS6' (by kernel_rfl) rfl (by simp) (by simp [Value.cells, Value.oneCell'])
    refine ⟨w7, h7, ?_⟩
    let R2 : RS := { R1 with sf := s6, CF := C6, fs := R1.fs ++ [(SV.nil, (⟨[], 0⟩ : MFile))] }
    let M2 : MDisk := { M.ready.2 with files := M.ready.2.files ++ [MFile.mk [] 0] }
    have hS7 : Sep E w7 (R2.chunks M2 d ++ ((R1.CF ++ G6) ++ L)) := hS7
    refine ⟨s6, hS7.load (b := d) (o := 0) List.mem_cons_self rfl (by kernel_rfl), ?_⟩
    have hR2 : RRep R2 M2 I := by
      refine ⟨by show (R1.fs ++ [(SV.nil, (⟨[], 0⟩ : MFile))]).map (·.2) = M.ready.2.files ++ [MFile.mk [] 0]; rw [List.map_append, hR1.files]; rfl, fun r hr => ?_, ?_, hR1.now, hR1.kept, hR1.chs, hR1.left⟩
      · rcases List.mem_append.1 hr with hr | hr
        · exact hR1.bytes r hr
        · rw [List.mem_singleton] at hr
          subst hr
          exact RdS.none I 1
      · rw [List.nil_append] at ho6
        exact ho6
    have hsl := RdG.size encF_ok ho6.rds
    have h6l : s6.len = R1.fs.length + 1 := by simpa using hsl
    have hidx : IntKind.wrap .i64 (((s6.len : Nat) : Int) - 1) = ((M.ready.2.files.length : Nat) : Int) := by
      rw [h6l, w64 (by omega) (by omega), hfl]
      omega
    rw [hidx]
    have hne := MDisk.right_ne h2
    have hk := k142 (c := ⟨noName, x, M.ready.2.files.length⟩) (fi := ((M.ready.2.files.length : Nat) : Int)) hS7 hR2 (fun c hc => List.mem_append_right _ (hI c hc)) (by show M.ready.2.now.length ≤ _; omega) (by show M.ready.2.changes.length ≤ _; omega) hg.ready.emptyN (.inl ⟨rfl, hne⟩) (by simp)
    refine Calls.mono (R := _) hk ?_
    rintro _ w8 ⟨R', C8, rfl, hR8, hS8⟩
    have hS9 : Sep E w8 (R'.chunks (M2.chg ⟨noName, x, M.ready.2.files.length⟩) d ++ ((C8 ++ (R1.CF ++ G6)) ++ L)) := hS8.weak (by intro f; simp only [ms_append, ms_cons, ms_nil]; omega)
    refine ⟨rfl, R', C8 ++ (R1.CF ++ G6), rfl, hR8.mono fun c hc => ?_, hS9⟩
    simp only [List.mem_append] at hc ⊢
    rcases hc with hc | hc
    · exact .inl (.inl hc)
    · exact .inr hc

/-- Rename. -/
theorem k98 {E w : World} {L I : List Chunk} {M : MDisk} {R : RS} {d n b : Nat} (hS : Sep E w (R.chunks M d ++ L)) (hR : RRep R M I) (hI : ∀ c ∈ I, c ∈ L) (hg : M.Good) (hm : M.Small n b) (hn : n ≤ 1000000) (x y : ByteArray) :
    Calls Pr 98 #[.pointer (some ⟨d, 0, none⟩), .string x, .string y] w fun e w' => ∃ (R' : RS) (C : List Chunk), e = .returned (.int .i64 (M.rename x y).1) ∧ RRep R' (M.rename x y).2 (C ++ I) ∧ Sep E w' (R'.chunks (M.rename x y).2 d ++ (C ++ L)) := by
  refine call98 ?_
  unfold ir98
  refine (k126 hm.left hS hR).mono ?_
  rintro _ w1 ⟨rfl, lf, hR1, hS1⟩
  generalize ({ R with lf := lf } : RS) = R1 at hR1 hS1
  have hnl := small_now hg.ready hm.ready
  have hcl := small_ch hm.ready
  refine ⟨_, rfl, ?_⟩
  unfold MDisk.rename
  refine brc_intro (fun h => ?_) (fun h => ?_)
  · have h : M.ready.1 ≠ 0 := by simpa using h
    rw [rfind_bad h]
    exact ⟨R1, [], rfl, hR1, hS1⟩
  have h : M.ready.1 = 0 := by simpa using h
  refine ⟨R1.sn, hS1.load (b := d) (o := 1) List.mem_cons_self rfl (by kernel_rfl), ?_⟩
  refine (k105 hS1 hR1.now (fun c hc => List.mem_append_right _ (hI c hc)) (by omega) x).mono ?_
  rintro _ w2 ⟨rfl, rfl⟩
  refine ⟨_, rfl, ?_⟩
  cases hf : findN x M.ready.2.now with
  | none =>
    rw [rfind_none h hf, findI_none hf]
    exact brc_true (by simp) ⟨R1, [], rfl, hR1, hS1⟩
  | some i =>
    rw [rfind_some h hf, findI_some hf]
    refine brc_false (by simp) ?_
    dsimp only
    refine (k141 w2 y).mono ?_
    rintro _ _ ⟨rfl, rfl⟩
    refine ⟨_, rfl, brc_intro (fun h2 => ?_) (fun h2 => ?_)⟩
    · have h2 : MDisk.right y = false := by simpa using h2
      rw [if_pos h2]
      exact ⟨R1, [], rfl, hR1, hS1⟩
    have h2 : MDisk.right y = true := by simpa using h2
    rw [if_neg (by simp [h2])]
    have hne := hg.ready.emptyN _ (mem_of_findN hf)
    have hne : x ≠ noName := hne
    have hk := k142 (c := ⟨x, y, i⟩) (fi := 0) hS1 hR1 (fun c hc => hI c hc) (by omega) (by omega) hg.ready.emptyN (.inr ⟨hne, i, hf, fun _ => rfl⟩) (by show (if x = noName then _ else _) = _; rw [if_neg hne])
    refine Calls.mono (R := _) hk ?_
    rintro _ w8 ⟨R', C8, rfl, hR8, hS8⟩
    exact ⟨rfl, R', C8, rfl, hR8, hS8⟩

/-- Remove. -/
theorem k99 {E w : World} {L I : List Chunk} {M : MDisk} {R : RS} {d n b : Nat} (hS : Sep E w (R.chunks M d ++ L)) (hR : RRep R M I) (hI : ∀ c ∈ I, c ∈ L) (hg : M.Good) (hm : M.Small n b) (hn : n ≤ 1000000) (x : ByteArray) :
    Calls Pr 99 #[.pointer (some ⟨d, 0, none⟩), .string x] w fun e w' => ∃ (R' : RS) (C : List Chunk), e = .returned (.int .i64 (M.remove x).1) ∧ RRep R' (M.remove x).2 (C ++ I) ∧ Sep E w' (R'.chunks (M.remove x).2 d ++ (C ++ L)) := by
  refine call99 ?_
  unfold ir99
  refine (k126 hm.left hS hR).mono ?_
  rintro _ w1 ⟨rfl, lf, hR1, hS1⟩
  generalize ({ R with lf := lf } : RS) = R1 at hR1 hS1
  have hnl := small_now hg.ready hm.ready
  have hcl := small_ch hm.ready
  refine ⟨_, rfl, ?_⟩
  unfold MDisk.remove
  refine brc_intro (fun h => ?_) (fun h => ?_)
  · have h : M.ready.1 ≠ 0 := by simpa using h
    rw [rfind_bad h]
    exact ⟨R1, [], rfl, hR1, hS1⟩
  have h : M.ready.1 = 0 := by simpa using h
  refine ⟨R1.sn, hS1.load (b := d) (o := 1) List.mem_cons_self rfl (by kernel_rfl), ?_⟩
  refine (k105 hS1 hR1.now (fun c hc => List.mem_append_right _ (hI c hc)) (by omega) x).mono ?_
  rintro _ w2 ⟨rfl, rfl⟩
  refine ⟨_, rfl, ?_⟩
  cases hf : findN x M.ready.2.now with
  | none =>
    rw [rfind_none h hf, findI_none hf]
    exact brc_true (by simp) ⟨R1, [], rfl, hR1, hS1⟩
  | some i =>
    rw [rfind_some h hf, findI_some hf]
    refine brc_false (by simp) ?_
    dsimp only
    have hne : x ≠ noName := hg.ready.emptyN _ (mem_of_findN hf)
    have hk := k142 (c := ⟨x, noName, 0⟩) (fi := 0) hS1 hR1 (fun c hc => hI c hc) (by omega) (by omega) hg.ready.emptyN (.inr ⟨hne, i, hf, fun h => absurd rfl h⟩) (by show (if x = noName then _ else _) = _; rw [if_neg hne])
    refine Calls.mono (R := _) hk ?_
    rintro _ w8 ⟨R', C8, rfl, hR8, hS8⟩
    exact ⟨rfl, R', C8, rfl, hR8, hS8⟩

/-- SyncNames. -/
theorem k100 {E w : World} {L I : List Chunk} {M : MDisk} {R : RS} {d n b : Nat} (hS : Sep E w (R.chunks M d ++ L)) (hR : RRep R M I) (hI : ∀ c ∈ I, c ∈ L) (hg : M.Good) (hm : M.Small n b) (hn : n ≤ 1000000) :
    Calls Pr 100 #[.pointer (some ⟨d, 0, none⟩)] w fun e w' => ∃ (R' : RS) (C : List Chunk), e = .returned (.int .i64 M.syncNames.1) ∧ RRep R' M.syncNames.2 (C ++ I) ∧ Sep E w' (R'.chunks M.syncNames.2 d ++ (C ++ L)) := by
  refine call100 ?_
  unfold ir100
  refine (k126 hm.left hS hR).mono ?_
  rintro _ w1 ⟨rfl, lf, hR1, hS1⟩
  generalize ({ R with lf := lf } : RS) = R1 at hR1 hS1
  have hnl := small_now hg.ready hm.ready
  refine ⟨_, rfl, ?_⟩
  unfold MDisk.syncNames
  refine brc_intro (fun h => ?_) (fun h => ?_)
  · have h : M.ready.1 ≠ 0 := by simpa using h
    rw [if_pos h, ← ready_40 h]
    exact ⟨R1, [], rfl, hR1, hS1⟩
  have h : M.ready.1 = 0 := by simpa using h
  rw [if_neg (by simpa using h)]
  obtain ⟨s2, w3, C3, h3, ho3, hS3⟩ := Sep.litG0 (α := ByteArray × Nat) (enc := encN) ti156 hS1 (by kernel_rfl)
  refine ⟨s2, w3, h3, R1.sn, hS3.load (b := d) (o := 1) (List.mem_append_right _ List.mem_cons_self) rfl (by kernel_rfl), ?_⟩
  obtain ⟨s4, w4, C4, h4, ho4, hS4⟩ := Sep.appG (ys := M.ready.2.now) (ty := 156) encN_ok ti156 hS3 ho3 (hR1.now.mono fun c hc => by simp [hI c hc]) (by simp; omega) (by simp; unfold maxLen; omega)
  refine ⟨s4, w4, h4, ?_⟩
  have hS4' : Sep E w4 (rChunkD M.ready.2 d R1.sf R1.sn R1.sk R1.sc R1.lf :: (R1.CF ++ (C4 ++ L))) := hS4.weak (by intro f; simp only [RS.chunks, ms_append, ms_cons, ms_nil]; omega)
  obtain ⟨w5, h5, hS5⟩ := Sep.store (cs := [slV R1.sf, slV R1.sn, slV R1.sk, slV R1.sc, .int .i64 (M.ready.2.room : Int), .bool M.ready.2.down, .bool M.ready.2.doomed, .int .i64 R1.lf]) (o := 2) (n := 1) (v := slV s4) (t := 156) hS4' (by kernel_rfl) rfl (by simp) (by simp [Value.cells, Value.oneCell'])
  refine ⟨w5, h5, ?_⟩
  obtain ⟨w6, h6, hS6⟩ := Sep.store (cs := [slV R1.sf, slV R1.sn, slV s4, slV R1.sc, .int .i64 (M.ready.2.room : Int), .bool M.ready.2.down, .bool M.ready.2.doomed, .int .i64 R1.lf]) (o := 3) (n := 1) (v := .slice none 0 0) (t := 157) hS5 (by kernel_rfl) rfl (by simp) (by simp [Value.cells, Value.oneCell'])
  refine ⟨w6, h6, { R1 with sk := s4, sc := SV.nil }, C4, rfl, ⟨hR1.files, fun r hr => (hR1.bytes r hr).right _, hR1.own, hR1.now.right _, ?_, RdS.none _ _, hR1.left⟩, hS6⟩
  have := ho4.rds
  rw [List.nil_append] at this
  exact this.left I

/-- Clone. -/
theorem k44 {E w : World} {L I : List Chunk} {M : MDisk} {R : RS} {d n b : Nat} (hS : Sep E w (R.chunks M d ++ L)) (hR : RRep R M I) (hm : M.Small n b) (hn : n ≤ 1000000) :
    Calls Pr 44 #[.pointer (some ⟨d, 0, none⟩)] w fun e w' => ∃ (R' : RS) (x : Nat) (C : List Chunk), e = .returned (.pointer (some ⟨x, 0, none⟩)) ∧ RRep R' M I ∧ Sep E w' (R'.chunks M x ++ (R.chunks M d ++ (C ++ L))) := by
  refine call44 ?_
  unfold ir44
  refine ⟨R.sf, R.sn, R.sk, R.sc, (M.room : Int), M.down, M.doomed, R.lf, hS.loadS (b := d) (o := 0) (n := 8) List.mem_cons_self (by kernel_rfl) (by kernel_rfl) rfl (by simp), ?_⟩
  obtain ⟨x, w1, h1, hS1⟩ := hS.alloc (t := 159) z159
  refine ⟨_, w1, h1, ?_⟩
  obtain ⟨w2, h2, hS2⟩ := Sep.store (cs := [.slice none 0 0, .slice none 0 0, .slice none 0 0, .slice none 0 0, .int .i64 0, .bool false, .bool false, .int .i64 0]) (o := 0) (n := 8) (v := .agg #[slV R.sf, slV R.sn, slV R.sk, slV R.sc, .int .i64 (M.room : Int), .bool M.down, .bool M.doomed, .int .i64 R.lf]) (t := 159) hS1 (by kernel_rfl) rfl (by simp) (by simp [Value.cells, Value.oneCell'])
  refine ⟨w2, h2, ?_⟩
  have hS2 : Sep E w2 (rChunkD M x R.sf R.sn R.sk R.sc R.lf :: (R.chunks M d ++ L)) := hS2
  obtain ⟨s3, w3, C3, h3, ho3, hS3⟩ := Sep.litG0 (α := SV × MFile) (enc := encF) ti155 hS2 (by kernel_rfl)
  have md : rChunkD M d R.sf R.sn R.sk R.sc R.lf ∈ C3 ++ (rChunkD M x R.sf R.sn R.sk R.sc R.lf :: (R.chunks M d ++ L)) := List.mem_append_right _ (List.mem_cons_of_mem _ List.mem_cons_self)
  refine ⟨s3, w3, h3, R.sf, hS3.load (b := d) (o := 0) md rfl (by kernel_rfl), ?_⟩
  have hfl := congrArg List.length hR.files
  rw [List.length_map] at hfl
  have hfn := hm.files
  obtain ⟨s4, w4, C4, h4, ho4, hS4⟩ := Sep.appG (ys := R.fs) (ty := 155) encF_ok ti155 hS3 ho3 (hR.own.rds.mono fun c hc => by simp [RS.chunks, hc]) (by simp; omega) (by simp; unfold maxLen; omega)
  refine ⟨s4, w4, h4, ?_⟩
  have hS4' : Sep E w4 (rChunkD M x R.sf R.sn R.sk R.sc R.lf :: (C4 ++ (R.chunks M d ++ ([] ++ L)))) := hS4.weak (by intro f; simp only [ms_append, ms_cons, ms_nil]; omega)
  obtain ⟨w5, h5, hS5⟩ := Sep.store (cs := [slV R.sf, slV R.sn, slV R.sk, slV R.sc, .int .i64 (M.room : Int), .bool M.down, .bool M.doomed, .int .i64 R.lf]) (o := 0) (n := 1) (v := slV s4) (t := 155) hS4' (by kernel_rfl) rfl (by simp) (by simp [Value.cells, Value.oneCell'])
  exact ⟨w5, h5, { R with sf := s4, CF := C4 }, x, [], rfl, ⟨hR.files, hR.bytes, by simpa using ho4, hR.now, hR.kept, hR.chs, hR.left⟩, hS5⟩

end Go.Proofs.Ytonjaaljnjjjcaa

set_option linter.unusedVariables false
set_option linter.unusedSimpArgs false
namespace Go.Proofs.Ytonjaaljnjjjcaa
open Go Go.RowKit

/-! ### A row of truths -/
def pb (p : Nat → Bool) (n : Nat) : List Value := (List.range n).map fun i => .bool (p i)
theorem pb_len (p : Nat → Bool) (n : Nat) : (pb p n).length = n := by simp [pb]
theorem pb_get {p : Nat → Bool} {n i : Nat} (h : i < n) : (pb p n)[i]? = some (.bool (p i)) := by simp [pb, h]
theorem pb_set {p q : Nat → Bool} {n i : Nat} (h : i < n) (hq : ∀ x, q x = (p x || decide (x = i))) : spl (pb p n) i [.bool true] = pb q n := by
  apply List.ext_getElem?
  intro j
  rw [spl_get _ _ _ (by rw [pb_len]; show i + 1 ≤ n; omega)]
  by_cases hj : j < n
  · rw [pb_get hj, pb_get hj, hq]
    by_cases h1 : j < i
    · rw [if_pos h1]
      have : ¬ j = i := by omega
      simp [this]
    · rw [if_neg h1]
      by_cases h2 : j = i
      · subst h2
        simp
      · rw [if_neg (by simp; omega)]
        simp [h2]
  · have h1 : ¬ j < i := by omega
    have h2 : ¬ j < i + 1 := by omega
    rw [if_neg h1, if_neg (by simpa using h2), List.getElem?_eq_none (by rw [pb_len]; omega), List.getElem?_eq_none (by rw [pb_len]; omega)]
theorem pb_congr {p q : Nat → Bool} {n : Nat} (h : ∀ x, p x = q x) : pb p n = pb q n := by
  have : p = q := funext h
  rw [this]
theorem ti161 : TI 161 4 1 1 (.bool false) := ⟨by kernel_rfl, by kernel_rfl, rfl, by decide⟩
theorem zerosL_b (n : Nat) : zerosL (.bool false) (n * 1) = pb (fun _ => false) n := by
  rw [Nat.mul_one]
  unfold zerosL pb
  apply List.map_congr_left
  intro i _
  simp [Value.cells, Nat.mod_one]

theorem fitsAll_at : ∀ {l : List MChange} {nm : Names} {j : Nat} {c : MChange}, FitsAll nm l → l[j]? = some c → Fits ((l.take j).foldl doN nm) c
  | [], _, _, _, _, h => by simp at h
  | x :: l, nm, 0, c, hf, h => by
    simp at h
    subst h
    exact hf.1
  | x :: l, nm, j + 1, c, hf, h => by
    have := fitsAll_at (l := l) hf.2 (j := j) (c := c) (by simpa using h)
    simpa using this

theorem usedTo_snoc (M : MDisk) (f : MFile) : ∀ (l : List MFile) (i : Nat), M.usedTo i (l ++ [f]) = M.usedTo i l + (if M.holds (i + l.length) then f.bytes.length else 0)
  | [], i => by simp [MDisk.usedTo]
  | x :: l, i => by
    rw [List.cons_append]
    unfold MDisk.usedTo
    rw [usedTo_snoc M f l (i + 1), List.length_cons]
    rw [show i + 1 + l.length = i + (l.length + 1) by omega]
    omega
theorem usedTo_le (M : MDisk) : ∀ (fs : List MFile) (i : Nat), M.usedTo i fs ≤ ms (fun f => f.bytes.length) fs
  | [], _ => Nat.le_refl _
  | f :: fs, i => by
    have := usedTo_le M fs (i + 1)
    unfold MDisk.usedTo
    rw [ms_cons]
    split <;> omega
theorem ms_take {α : Type} (f : α → Nat) (l : List α) (j : Nat) : ms f (l.take j) ≤ ms f l := by
  have : ms f l = ms f (l.take j) + ms f (l.drop j) := by rw [← ms_append, List.take_append_drop]
  omega

/-- Used. -/
theorem k41 {E w : World} {L I : List Chunk} {M : MDisk} {R : RS} {d n b : Nat} (hS : Sep E w (R.chunks M d ++ L)) (hR : RRep R M I) (hI : ∀ c ∈ I, c ∈ L) (hg : M.Good) (hm : M.Small n b) (hn : n ≤ 1000000) (hb : b ≤ 1000000000) :
    Calls Pr 41 #[.pointer (some ⟨d, 0, none⟩)] w fun e w' => ∃ C : List Chunk, e = .returned (.int .i64 ((M.used : Nat) : Int)) ∧ Sep E w' (C ++ (R.chunks M d ++ L)) := by
  refine call41 ?_
  unfold ir41
  let F := R.chunks M d ++ L
  have mF : rChunkD M d R.sf R.sn R.sk R.sc R.lf ∈ F := List.mem_append_left _ List.mem_cons_self
  refine ⟨R.sf, hS.load (b := d) (o := 0) mF rfl (by kernel_rfl), ?_⟩
  have hfl := congrArg List.length hR.files
  rw [List.length_map] at hfl
  have hfn := hm.files
  have hsf := RdG.size encF_ok hR.own.rds
  have hkn := hm.names
  obtain ⟨g, w1, h1, hS1⟩ := hS.makeSlice ti161 (n := R.sf.len) (by omega) (by omega)
  rw [zerosL_b, hsf, hfl] at hS1
  refine ⟨⟨some ⟨g, 0, none⟩, R.sf.len, R.sf.len⟩, w1, h1, R.sk, hS1.load (b := d) (o := 2) (List.mem_cons_of_mem _ mF) rfl (by kernel_rfl), ?_⟩
  rw [hsf, hfl]
  generalize hnf : M.files.length = nf at *
  let hs : SV := ⟨some ⟨g, 0, none⟩, nf, nf⟩
  have hsk := RdG.size encN_ok hR.kept
  have hsc := RdG.size encC_ok hR.chs
  have hIF : ∀ c ∈ I, c ∈ F := fun c hc => List.mem_append_right _ (hI c hc)
  refine ⟨fun k σ w2 => ∃ (j : Nat) (CB : List Chunk), j ≤ M.kept.length ∧ k = M.kept.length - j ∧ σ = ((j : Int), ()) ∧ Own 4 1 hs (pb (fun i => (M.kept.take j).any fun x => decide (x.2 = i)) nf) CB ∧ Sep E w2 (CB ++ F), M.kept.length, ⟨0, [_], Nat.zero_le _, rfl, rfl, Own.new (by rw [pb_len, Nat.mul_one]) (by unfold maxLen; omega), hS1⟩, ?_⟩
  rintro k σ w2 ⟨j, CB, hj, rfl, rfl, ho, hS2⟩ _
  dsimp only
  refine brc_intro (fun h => ?_) (fun h => ?_)
  · have h : j < M.kept.length := by simp at h; omega
    have hx : M.kept[j]? = some M.kept[j] := List.getElem?_eq_getElem h
    generalize M.kept[j] = x at hx
    have hxb : x.2 < nf := by rw [← hnf]; exact hg.keptB x (List.mem_of_getElem? hx)
    obtain ⟨a, ha, _, hat⟩ := RdG.at_ encN_ok hR.kept hx
    rw [ha]
    refine ⟨⟨by omega, by omega⟩, (x.2 : Int), hat (j := 1) (v := .int .i64 (x.2 : Int)) (t := 3) rfl (by kernel_rfl) hS2 (fun c hc => by simp [hIF c hc]), ⟨by omega, by show ((x.2 : Nat) : Int) < ((nf : Nat) : Int); omega⟩, ?_⟩
    obtain ⟨a', ha', w3, C3, h3, ho3, hS3⟩ := Sep.storeOwn (j := x.2) (m := 1) (v := .bool true) (t := 4) hS2 ho (by rw [pb_len]; omega) (by rw [pb_len]; omega) (by kernel_rfl) rfl (by simp [Value.cells, Value.oneCell'])
    rw [Nat.mul_one]
    refine ⟨w3, ?_, M.kept.length - (j + 1), by omega, j + 1, C3, by omega, rfl, by rw [w64 (by omega) (by omega)]; rfl, ?_, hS3⟩
    · have ha'' : some (⟨g, 0, none⟩ : Addr) = some a' := ha'
      rw [← Option.some.inj ha''] at h3
      exact h3
    · have hq : ∀ y, ((M.kept.take (j + 1)).any fun x => decide (x.2 = y)) = (((M.kept.take j).any fun x => decide (x.2 = y)) || decide (y = x.2)) := fun y => by
        rw [take_at hx, List.any_append]
        simp [eq_comm]
      have e : (Value.bool true).cells.toList = [.bool true] := rfl
      rw [e, pb_set hxb hq] at ho3
      exact ho3
  have h : j = M.kept.length := by simp at h; omega
  subst h
  rw [List.take_length] at ho
  -- the changes
  let P : Nat → Nat → Bool := fun j i => (M.kept.any fun x => decide (x.2 = i)) || ((M.changes.take j).any fun c => decide (c.new ≠ noName) && decide (c.file = i))
  refine ⟨fun k σ w3 => ∃ (j : Nat) (CB C : List Chunk), j ≤ M.changes.length ∧ k = M.changes.length - j ∧ σ.1 = (j : Int) ∧ RdS (C ++ I) 2 σ.2.1 (((M.changes.take j).foldl doN M.kept).flatMap encN) ∧ Own 4 1 hs (pb (P j) nf) CB ∧ Sep E w3 (CB ++ (C ++ F)), M.changes.length, ⟨0, CB, [], Nat.zero_le _, rfl, rfl, hR.kept, by
    have : pb (P 0) nf = pb (fun i => M.kept.any fun x => decide (x.2 = i)) nf := pb_congr fun x => by simp [P]
    rw [this]
    exact ho, hS2⟩, ?_⟩
  clear hS2 ho hS1 h1
  rintro k ⟨jj, sa, u⟩ w3 ⟨j, CB, C, hj, rfl, hjj, hr, ho, hS3⟩ _
  dsimp only at hjj hr ⊢
  subst hjj
  have mF3 : rChunkD M d R.sf R.sn R.sk R.sc R.lf ∈ CB ++ (C ++ F) := by simp [mF]
  refine ⟨R.sc, hS3.load (b := d) (o := 3) mF3 rfl (by kernel_rfl), brc_intro (fun h => ?_) (fun h => ?_)⟩
  · have h : j < M.changes.length := by simp at h; omega
    have hx : M.changes[j]? = some M.changes[j] := List.getElem?_eq_getElem h
    generalize M.changes[j] = c at hx
    have hcb : c.new ≠ noName → c.file < nf := by rw [← hnf]; exact hg.chB c (List.mem_of_getElem? hx)
    obtain ⟨a, ha, hat0, hat⟩ := RdG.at_ encC_ok hR.chs hx
    refine ⟨R.sc, hS3.load (b := d) (o := 3) mF3 rfl (by kernel_rfl), ?_⟩
    rw [ha]
    refine ⟨⟨by omega, by omega⟩, c.gone, c.new, (if c.gone = noName then (c.file : Int) else 0), hat0 (t := 166) (by kernel_rfl) (by kernel_rfl) hS3 (fun c hc => by simp [hIF c hc]), ?_⟩
    have hf := fitsAll_at hg.fits hx
    have hfold := foldl_len (M.changes.take j) M.kept
    have htl : (M.changes.take j).length ≤ M.changes.length := by rw [List.length_take]; omega
    have hne := foldl_noEmpty (M.changes.take j) hg.empty
    have htk : (M.changes.take (j + 1)).foldl doN M.kept = doN ((M.changes.take j).foldl doN M.kept) c := by rw [take_at hx, List.foldl_append]; rfl
    generalize hnm : (M.changes.take j).foldl doN M.kept = nm at *
    refine (k104 hS3 hr (fun c hc => by rcases List.mem_append.1 hc with hc | hc; · simp [hc]
                                        · simp [hIF c hc]) (by omega) hne hf).mono ?_
    rintro _ w4 ⟨s4, C4, G4, rfl, ho4, hS4⟩
    have mF4 : rChunkD M d R.sf R.sn R.sk R.sc R.lf ∈ C4 ++ (G4 ++ (CB ++ (C ++ F))) := by simp [mF]
    refine ⟨s4, rfl, R.sc, hS4.load (b := d) (o := 3) mF4 rfl (by kernel_rfl), ?_⟩
    rw [ha]
    refine ⟨⟨by omega, by omega⟩, c.new, hat (j := 1) (v := .string c.new) (t := 9) rfl (by kernel_rfl) hS4 (fun c hc => by simp [hIF c hc]), ?_⟩
    have hdl := doN_len nm c
    refine (k105 hS4 ho4.rds (fun c hc => by simp [hc]) (by omega) c.new).mono ?_
    rintro _ w5 ⟨rfl, rfl⟩
    refine ⟨_, rfl, ?_⟩
    have hq : ∀ y, P (j + 1) y = (P j y || (decide (c.new ≠ noName) && decide (y = c.file))) := fun y => by
      show ((M.kept.any fun x => decide (x.2 = y)) || ((M.changes.take (j + 1)).any fun c => decide (c.new ≠ noName) && decide (c.file = y))) = _
      rw [take_at hx, List.any_append, ← Bool.or_assoc]
      simp [eq_comm, P]
    by_cases hw : c.new = noName
    · have hfi : findI c.new (doN nm c) = -1 := findI_none (findN_none_of fun x hx e => doN_noEmpty hne c x hx (e.trans hw))
      rw [hfi]
      refine brc_false (by simp) ?_
      refine ⟨M.changes.length - (j + 1), by omega, j + 1, CB, C4 ++ (G4 ++ C), by omega, rfl, by rw [w64 (by omega) (by omega)]; rfl, ?_, ?_, hS4.weak (by intro f; simp only [ms_append, ms_cons, ms_nil]; omega)⟩
      · show RdS _ 2 s4 _
        rw [htk]
        exact ho4.rds.mono fun c hc => by simp [hc]
      · have : pb (P (j + 1)) nf = pb (P j) nf := pb_congr fun y => by rw [hq]; simp [hw]
        rw [this]
        exact ho
    · have hfi : findI c.new (doN nm c) = ((c.file : Nat) : Int) := findI_some (by rw [findN_do]; simp [hw])
      rw [hfi]
      refine brc_true (by simp) ?_
      have hcf := hcb hw
      refine ⟨⟨by omega, by show ((c.file : Nat) : Int) < ((nf : Nat) : Int); omega⟩, ?_⟩
      have hS4' : Sep E w5 (CB ++ (C4 ++ (G4 ++ C) ++ F)) := hS4.weak (by intro f; simp only [ms_append, ms_cons, ms_nil]; omega)
      obtain ⟨a', ha', w6, C6, h6, ho6, hS6⟩ := Sep.storeOwn (j := c.file) (m := 1) (v := .bool true) (t := 4) hS4' ho (by rw [pb_len]; omega) (by rw [pb_len]; omega) (by kernel_rfl) rfl (by simp [Value.cells, Value.oneCell'])
      rw [Int.toNat_natCast, Nat.mul_one]
      refine ⟨w6, ?_, M.changes.length - (j + 1), by omega, j + 1, C6, C4 ++ (G4 ++ C), by omega, rfl, by rw [w64 (by omega) (by omega)]; rfl, ?_, ?_, hS6⟩
      · have ha'' : some (⟨g, 0, none⟩ : Addr) = some a' := ha'
        rw [← Option.some.inj ha''] at h6
        exact h6
      · show RdS _ 2 s4 _
        rw [htk]
        exact ho4.rds.mono fun c hc => by simp [hc]
      · have e : (Value.bool true).cells.toList = [.bool true] := rfl
        rw [e, pb_set hcf (q := P (j + 1)) (fun y => by rw [hq]; simp [hw])] at ho6
        exact ho6
  have h : j = M.changes.length := by simp at h; omega
  subst h
  have hP : ∀ i, P M.changes.length i = M.holds i := fun i => by
    show (_ || _) = _
    rw [List.take_length]
    rfl
  -- the sum
  refine ⟨fun k σ w4 => ∃ j : Nat, j ≤ nf ∧ k = nf - j ∧ σ = ((j : Int), ((M.usedTo 0 (M.files.take j) : Nat) : Int), ()) ∧ w4 = w3, nf, ⟨0, Nat.zero_le _, rfl, rfl, rfl⟩, ?_⟩
  rintro k σ w4 ⟨j, hj, rfl, rfl, rfl⟩ _
  dsimp only
  refine brc_intro (fun h => ?_) (fun h => ?_)
  · have h : j < nf := by
      have h : ((j : Nat) : Int) < ((nf : Nat) : Int) := by simpa using h
      omega
    refine ⟨⟨by omega, by show ((j : Nat) : Int) < ((nf : Nat) : Int); omega⟩, ?_⟩
    obtain ⟨a, ha, hat⟩ := ho.rds.idx (pb_get h) hS3 (fun c hc => by simp [hc]) (t := 4) (by kernel_rfl)
    have ha : some (⟨g, 0, none⟩ : Addr) = some a := ha
    rw [← Option.some.inj ha] at hat
    rw [hP] at hat
    refine ⟨M.holds j, hat, ?_⟩
    have hx : M.files[j]? = some M.files[j] := List.getElem?_eq_getElem (by omega)
    have hst : M.usedTo 0 (M.files.take (j + 1)) = M.usedTo 0 (M.files.take j) + (if M.holds j then M.files[j].bytes.length else 0) := by
      rw [take_at hx, usedTo_snoc, List.length_take, Nat.zero_add, Nat.min_eq_left (by omega)]
    refine brc_intro (fun hh => ?_) (fun hh => ?_)
    · obtain ⟨A, r, B, hfs, hA, hrx, hfa, hr', hrm⟩ := hR.file (i := j) (by omega)
      have hrf : M.files[j] = r.2 := by
        have : M.fileAt j = M.files[j] := by
          unfold MDisk.fileAt
          rw [List.getD_eq_getElem?_getD, hx]
          rfl
        rw [← this, hfa]
      rw [hrf, if_pos hh] at hst
      refine ⟨R.sf, hS3.load (b := d) (o := 0) mF3 rfl (by kernel_rfl), ?_⟩
      obtain ⟨a2, ha2, _, hat2⟩ := RdG.at_ encF_ok hR.own.rds hrx
      rw [ha2]
      have hrs := (hR.bytes r hr').size
      have hu := usedTo_le M (M.files.take (j + 1)) 0
      have hu2 := ms_take (fun f : MFile => f.bytes.length) M.files (j + 1)
      have hu3 := hm.total
      have hu4 : n * b ≤ 1000000 * 1000000000 := Nat.mul_le_mul hn hb
      have hu5 : ms (fun f : MFile => f.bytes.length) M.files = M.total := rfl
      refine ⟨⟨by omega, by omega⟩, r.1, hat2 (j := 0) (v := slV r.1) (t := 26) rfl (by kernel_rfl) hS3 (fun c hc => by simp [F, RS.chunks, hc]), nf - (j + 1), by omega, j + 1, by omega, rfl, ?_, rfl⟩
      rw [hrs, w64 (by omega) (by omega), w64 (by omega) (by omega), hst]
      rfl
    · have hh : M.holds j = false := by simpa using hh
      rw [hh] at hst
      refine ⟨nf - (j + 1), by omega, j + 1, by omega, rfl, ?_, rfl⟩
      rw [w64 (by omega) (by omega), hst]
      rfl
  · have h : j = nf := by
      have h : ¬ ((j : Nat) : Int) < ((nf : Nat) : Int) := by simpa using h
      omega
    subst h
    refine ⟨CB ++ C, ?_, hS3.weak (by intro f; simp only [F, ms_append, ms_cons, ms_nil]; omega)⟩
    rw [← hnf, List.take_length]
    rfl

theorem z169 : (Pr.info? 169).bind (·.zero) = some (.agg #[.slice none 0 0, .int .i64 0]) := by kernel_rfl

/-- Append. -/
theorem k103 {E w : World} {L I : List Chunk} {M : MDisk} {R : RS} {d n b : Nat} (hS : Sep E w (R.chunks M d ++ L)) (hR : RRep R M I) (hI : ∀ c ∈ I, c ∈ L) (hg : M.Good) (hm : M.Small n b) (hn : n ≤ 1000000) (hb : b ≤ 1000000000) (x : ByteArray) {sx : SV} {bx : List UInt8} (hx : RdB L sx bx) (hbx : bx.length ≤ 1000000000) :
    Calls Pr 103 #[.pointer (some ⟨d, 0, none⟩), .string x, .slice sx.a sx.len sx.cap] w fun e w' => ∃ (R' : RS) (C : List Chunk), e = .returned (.int .i64 (M.append x bx).1) ∧ RRep R' (M.append x bx).2 (C ++ I) ∧ Sep E w' (R'.chunks (M.append x bx).2 d ++ (C ++ L)) := by
  refine call103 ?_
  unfold ir103
  refine (k126 hm.left hS hR).mono ?_
  rintro _ w1 ⟨rfl, lf, hR1, hS1⟩
  generalize ({ R with lf := lf } : RS) = R1 at hR1 hS1
  have hnl := small_now hg.ready hm.ready
  refine ⟨_, rfl, ?_⟩
  unfold MDisk.append
  refine brc_intro (fun h => ?_) (fun h => ?_)
  · have h : M.ready.1 ≠ 0 := by simpa using h
    rw [rfind_bad h]
    exact ⟨R1, [], rfl, hR1, hS1⟩
  have h : M.ready.1 = 0 := by simpa using h
  refine ⟨R1.sn, hS1.load (b := d) (o := 1) List.mem_cons_self rfl (by kernel_rfl), ?_⟩
  refine (k105 hS1 hR1.now (fun c hc => List.mem_append_right _ (hI c hc)) (by omega) x).mono ?_
  rintro _ w2 ⟨rfl, rfl⟩
  refine ⟨_, rfl, ?_⟩
  cases hf : findN x M.ready.2.now with
  | none =>
    rw [rfind_none h hf, findI_none hf]
    exact brc_true (by simp) ⟨R1, [], rfl, hR1, hS1⟩
  | some i =>
    rw [rfind_some h hf, findI_some hf]
    refine brc_false (by simp) ?_
    dsimp only
    have hi : i < M.ready.2.files.length := hg.ready.nowB _ (mem_of_findN hf)
    have hgr := hg.ready
    have hmr := hm.ready
    generalize M.ready.2 = M1 at *
    let F := R1.chunks M1 d ++ L
    have mF : rChunkD M1 d R1.sf R1.sn R1.sk R1.sc R1.lf ∈ F := List.mem_append_left _ List.mem_cons_self
    refine ⟨fun w => Sep E w F, hS1.drew, (M1.room : Int), fun w hw => Sep.load (L := F) hw (b := d) (o := 4) mF rfl (by kernel_rfl), ?_⟩
    refine (k41 hS1.drew hR1 hI hgr hmr hn hb).mono ?_
    rintro _ w3 ⟨C3, rfl, hS3⟩
    have hS3 : Sep E w3 (C3 ++ F) := hS3
    refine ⟨_, rfl, fun w => Sep E w F, fun w hw => hw, hS3.weak (by intro f; simp only [ms_append, ms_cons, ms_nil]; omega), ?_⟩
    have hxs := hx.size
    have hul := used_le M1
    have hu3 := hmr.total
    have hu4 : n * b ≤ 1000000 * 1000000000 := Nat.mul_le_mul hn hb
    rw [w64 (by omega) (by omega)]
    refine brc_intro (fun h5 => ?_) (fun h5 => ?_)
    · have h5 : M1.used + bx.length > M1.room := by simp at h5; omega
      rw [if_pos h5]
      exact ⟨R1, C3, rfl, hR1.right C3, hS3.weak (by intro f; simp only [F, ms_append, ms_cons, ms_nil]; omega)⟩
    have h5 : ¬ M1.used + bx.length > M1.room := by simp at h5; omega
    rw [if_neg h5]
    obtain ⟨A, r, B, hfs, hA, hrx, hfa, hr, hrm⟩ := hR1.file hi
    have hfl := RdG.size encF_ok hR1.own.rds
    have hil := (List.getElem?_eq_some_iff.1 hrx).1
    obtain ⟨a, ha, hat0, hat⟩ := RdG.at_ encF_ok hR1.own.rds hrx
    have mF3 : rChunkD M1 d R1.sf R1.sn R1.sk R1.sc R1.lf ∈ C3 ++ F := List.mem_append_right _ mF
    have mCF : ∀ {Y : List Chunk}, (∀ c ∈ F, c ∈ Y) → ∀ c ∈ R1.CF, c ∈ Y := fun hY c hc => hY c (by simp [F, RS.chunks, hc])
    refine ⟨R1.sf, hS3.load (b := d) (o := 0) mF3 rfl (by kernel_rfl), ?_⟩
    rw [ha]
    refine ⟨⟨by omega, by omega⟩, r.1, (r.2.kept : Int), hat0 (t := 169) (by kernel_rfl) (by kernel_rfl) hS3 (mCF fun c hc => by simp [hc]), ?_⟩
    obtain ⟨q, w4, h4, hS4⟩ := hS3.alloc (t := 169) z169
    refine ⟨_, w4, h4, ?_⟩
    obtain ⟨w5, h5', hS5⟩ := Sep.store (cs := [.slice none 0 0, .int .i64 0]) (o := 0) (n := 2) (v := .agg #[slV r.1, .int .i64 (r.2.kept : Int)]) (t := 169) hS4 (by kernel_rfl) rfl (by simp) (by simp [Value.cells, Value.oneCell'])
    let Q : SV → Chunk := fun s => (q, .cells #[slV s, .int .i64 (r.2.kept : Int)] 169 (0, 0))
    have hS5 : Sep E w5 (Q r.1 :: (C3 ++ F)) := hS5
    refine ⟨w5, h5', ?_⟩
    obtain ⟨s6, w6, C6, h6, ho6, hS6⟩ := Sep.litG0 (α := UInt8) (enc := fun b => [byteV b]) tiB hS5 (by kernel_rfl)
    have ho6 : Own 5 1 s6 (([] : List UInt8).map byteV) C6 := ho6
    refine ⟨s6, w6, h6, r.1, hS6.load (b := q) (o := 0) (List.mem_append_right _ List.mem_cons_self) rfl (by kernel_rfl), ?_⟩
    have hrb := hmr.each _ hrm
    obtain ⟨s7, w7, C7, h7, ho7, hS7⟩ := Sep.appB (ty := 26) hS6 ho6 ((hR1.bytes r hr).mono fun c hc => by simp [F, hI c hc]) (by simp; omega)
    refine ⟨s7, w7, h7, ?_⟩
    obtain ⟨s8, w8, C8, h8, ho8, hS8⟩ := Sep.appB (ty := 26) hS7 ho7 (hx.mono fun c hc => by simp [F, hc]) (by simp; omega)
    refine ⟨s8, w8, h8, ?_⟩
    rw [List.nil_append] at ho8
    have hS8' : Sep E w8 (Q r.1 :: (C8 ++ (C3 ++ F))) := hS8.weak (by intro f; simp only [ms_append, ms_cons, ms_nil]; omega)
    obtain ⟨w9, h9, hS9⟩ := Sep.store (cs := [slV r.1, .int .i64 (r.2.kept : Int)]) (o := 0) (n := 1) (v := slV s8) (t := 26) hS8' (by kernel_rfl) rfl (by simp) (by simp [Value.cells, Value.oneCell'])
    have hS9 : Sep E w9 (Q s8 :: (C8 ++ (C3 ++ F))) := hS9
    refine ⟨w9, h9, fun w => Sep E w (Q s8 :: (C8 ++ (C3 ++ F))), hS9.drew, R1.sf, fun w hw => hw.load (b := d) (o := 0) (by simp only [List.mem_cons, List.mem_append]; exact .inr (.inr (.inr mF))) rfl (by kernel_rfl), s8, (r.2.kept : Int), fun w hw => hw.loadS (b := q) (o := 0) (n := 2) List.mem_cons_self (by kernel_rfl) (by kernel_rfl) rfl (by simp), ⟨by omega, by omega⟩, ?_⟩
    rw [ha]
    have hS10 : Sep E (World.drew w9) (R1.CF ++ (rChunkD M1 d R1.sf R1.sn R1.sk R1.sc R1.lf :: ((Q s8 :: (C8 ++ C3)) ++ L))) := hS9.drew.weak (by intro f; simp only [F, RS.chunks, ms_append, ms_cons, ms_nil]; omega)
    have hfl2 := encF_ok.flat R1.fs
    obtain ⟨a', ha', w11, C11, h11, ho11, hS11⟩ := Sep.storeOwn (j := i * 2 + 0) (m := 2) (v := .agg #[slV s8, .int .i64 (r.2.kept : Int)]) (t := 169) hS10 hR1.own (by omega) (by omega) (by kernel_rfl) rfl (by simp [Value.cells, Value.oneCell'])
    rw [ha] at ha'
    rw [← Option.some.inj ha'] at h11
    refine ⟨w11, h11, fun _ => True, trivial, ?_⟩
    have ho11' : Own 169 2 R1.sf ((A ++ (s8, (fun f : MFile => (⟨f.bytes ++ bx, f.kept⟩ : MFile)) r.2) :: B).flatMap encF) C11 := by
      rw [hfs, ← hA, spl_enc encF_ok A B r (s8, ⟨r.2.bytes ++ bx, r.2.kept⟩) (by simp [Value.cells]) rfl] at ho11
      exact ho11
    refine ⟨_, Q s8 :: (C8 ++ C3), rfl, (hA ▸ (hR1.right (Q s8 :: (C8 ++ C3))).turn hfs (s := s8) (fun f : MFile => (⟨f.bytes ++ bx, f.kept⟩ : MFile)) (ho8.rds.mono fun c hc => by simp [hc]) ho11'), ?_⟩
    exact hS11.weak (by intro f; simp only [RS.chunks, ms_append, ms_cons, ms_nil, rChunkD_set]; omega)

end Go.Proofs.Ytonjaaljnjjjcaa
