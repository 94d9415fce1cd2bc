/- What 'vc' of these functions comes to, and their calls by it. Printed by dec.py. -/
import Derived.Test.YtonjaaljnjjjcaaP0
set_option linter.unusedVariables false
set_option linter.unusedSimpArgs false
namespace Go.Proofs.Ytonjaaljnjjjcaa
open Go

/-- creel/creellaw13.RunBack -/
def ir5 (x0 : SV) (w0 : World) (R : Value → World → Prop) : Prop :=
  ∃ (a1 : Addr) (w1 : World),
  Sem.run Pr (Instr.alloc 4 true (.tuple #[])) w0 = .ok (.pointer (some a1)) w1 ∧
  Calls Pr 20 #[] w1 fun e1 w2 =>
    ∃ (b1 : Bool),
    e1 = .returned (.bool b1) ∧
    Calls Pr 25 #[(.int .i64 10000)] w2 fun e2 w3 =>
      ∃ (p1 : Option Addr),
      e2 = .returned (.pointer p1) ∧
      Calls Pr 26 #[(.slice x0.a x0.len x0.cap)] w3 fun e3 w4 =>
        ∃ (s1 : SV),
        e3 = .returned (.slice s1.a s1.len s1.cap) ∧
        ∃ (a2 : Addr) (w5 : World),
        Sem.run Pr (Instr.alloc 22 true (.tuple #[])) w4 = .ok (.pointer (some a2)) w5 ∧
        ∃ (w6 : World),
        Sem.run Pr (Instr.storeAt 22 (.pointer (some a2)) (.slice s1.a s1.len s1.cap)) w5 = .ok () w6 ∧
        Calls Pr 27 #[(.pointer p1)] w6 fun e4 w7 =>
          ∃ (p2 : Option Addr) (n1 : Int),
          e4 = .returned (.tuple #[(.pointer p2), (.int .i64 n1)]) ∧
          brc (Option.isNone p2)
            (∃ (w8 : World),
              Sem.run Pr (Instr.storeAt 4 (.pointer (some a1)) (.bool false)) w7 = .ok () w8 ∧
              ∃ (b2 : Bool),
              At Pr w8 (loadVar 4 a1) (.bool b2) ∧
              R (.bool b2) w8)
            (brc (n1 != (0 : Int))
                (∃ (w9 : World),
                  Sem.run Pr (Instr.storeAt 4 (.pointer (some a1)) (.bool false)) w7 = .ok () w9 ∧
                  ∃ (b3 : Bool),
                  At Pr w9 (loadVar 4 a1) (.bool b3) ∧
                  R (.bool b3) w9)
                (∃ (s2 : SV),
                  At Pr w7 (loadVar 22 a2) (.slice s2.a s2.len s2.cap) ∧
                  LoopT (σ := Int × Unit) (fun σ1 w10 K1 =>
                    ∀ _ : Env,
                    brc (decide (σ1.1 < ((s2.len : Nat) : Int)))
                      (((0 : Int) ≤ σ1.1 ∧ σ1.1 < ((s2.len : Nat) : Int)) ∧
                        optK s2.a fun a3 =>
                          ∃ (s3 : SV),
                          At Pr w10 (loadVar 26 (Addr.add a3 (Int.toNat σ1.1 * 1))) (.slice s3.a s3.len s3.cap) ∧
                          Calls Pr 22 #[(.pointer p2), (.slice s3.a s3.len s3.cap)] w10 fun e5 w11 =>
                            ∃ (n2 : Int),
                            e5 = .returned (.int .i64 n2) ∧
                            brc (n2 != (0 : Int))
                              (∃ (w12 : World),
                                Sem.run Pr (Instr.storeAt 4 (.pointer (some a1)) (.bool false)) w11 = .ok () w12 ∧
                                ∃ (b4 : Bool),
                                At Pr w12 (loadVar 4 a1) (.bool b4) ∧
                                R (.bool b4) w12)
                              (K1 (IntKind.wrap .i64 (σ1.1 + 1), ()) w11))
                      (∃ (S1 : World → Prop),
                        S1 (World.drew w10) ∧
                        Calls Pr 23 #[(.pointer p2), (.string (⟨#[114, 117, 110]⟩ : ByteArray))] (World.drew w10) fun e6 w13 =>
                          ∃ (n3 : Int),
                          e6 = .returned (.int .i64 n3) ∧
                          ∃ (S2 : World → Prop),
                          S2 w13 ∧
                          brc (n3 != (0 : Int))
                            (∃ (w14 : World),
                              Sem.run Pr (Instr.storeAt 4 (.pointer (some a1)) (.bool false)) w13 = .ok () w14 ∧
                              ∃ (b5 : Bool),
                              At Pr w14 (loadVar 4 a1) (.bool b5) ∧
                              R (.bool b5) w14)
                            (∃ (s4 : SV),
                              AtS Pr S2 (loadVar 22 a2) (.slice s4.a s4.len s4.cap) ∧
                              Calls Pr 24 #[(.pointer p2)] w13 fun e7 w15 =>
                                ∃ (n4 : Int),
                                e7 = .returned (.int .i64 n4) ∧
                                ∃ (S3 : World → Prop),
                                (∀ w, S3 w → S2 w) ∧
                                S3 w15 ∧
                                brc (n4 != ((s4.len : Nat) : Int))
                                  (∃ (w16 : World),
                                    Sem.run Pr (Instr.storeAt 4 (.pointer (some a1)) (.bool false)) w15 = .ok () w16 ∧
                                    ∃ (b6 : Bool),
                                    At Pr w16 (loadVar 4 a1) (.bool b6) ∧
                                    R (.bool b6) w16)
                                  (Calls Pr 28 #[(.pointer p1), (.string (⟨#[114, 117, 110]⟩ : ByteArray))] w15 fun e8 w17 =>
                                      ∃ (s5 : SV) (n5 : Int),
                                      e8 = .returned (.tuple #[(.slice s5.a s5.len s5.cap), (.int .i64 n5)]) ∧
                                      ∃ (a4 : Addr) (w18 : World),
                                      Sem.run Pr (Instr.alloc 22 true (.tuple #[])) w17 = .ok (.pointer (some a4)) w18 ∧
                                      Calls Pr 29 #[(.slice s5.a s5.len s5.cap)] w18 fun e9 w19 =>
                                        ∃ (f1 : FV),
                                        e9 = .returned (.func f1.f f1.a f1.b) ∧
                                        rangeV Pr (.func f1.f f1.a f1.b) w19
                                          (fun X1 l1 =>
                                            ∀ (s6 : SV) (n6 : Int) (w20 : World) (Q1 : RPost),
                                            (∃ (w21 : World),
                                              Sem.run Pr (Instr.beginRound l1) w20 = .ok () w21 ∧
                                              brc (n6 != (0 : Int))
                                                (∃ (w22 : World),
                                                  Sem.run Pr (Instr.storeAt 4 (.pointer (some a1)) (.bool false)) w21 = .ok () w22 ∧
                                                  RPost.ret Q1 w22)
                                                (∃ (s7 : SV),
                                                  At Pr w21 (loadVar 22 a4) (.slice s7.a s7.len s7.cap) ∧
                                                  ∃ (s8 : SV),
                                                  At Pr w21 (loadVar 22 a2) (.slice s8.a s8.len s8.cap) ∧
                                                  brc (decide (((s7.len : Nat) : Int) > ((s8.len : Nat) : Int)))
                                                    (∃ (w23 : World),
                                                      Sem.run Pr (Instr.storeAt 4 (.pointer (some a1)) (.bool false)) w21 = .ok () w23 ∧
                                                      RPost.ret Q1 w23)
                                                    (∃ (s9 : SV),
                                                      At Pr w21 (loadVar 22 a4) (.slice s9.a s9.len s9.cap) ∧
                                                      ∃ (s10 : SV) (w24 : World),
                                                      Sem.run Pr (Instr.buildSlice 22 1 #[(0, (.slice s6.a s6.len s6.cap))]) w21 = .ok (.slice s10.a s10.len s10.cap) w24 ∧
                                                      ∃ (s11 : SV) (w25 : World),
                                                      Sem.run Pr (Builtin.append_ #[22, 22] 22 #[(.slice s9.a s9.len s9.cap), (.slice s10.a s10.len s10.cap)]) w24 = .ok (.slice s11.a s11.len s11.cap) w25 ∧
                                                      ∃ (w26 : World),
                                                      Sem.run Pr (Instr.storeAt 22 (.pointer (some a4)) (.slice s11.a s11.len s11.cap)) w25 = .ok () w26 ∧
                                                      RPost.nrm Q1 w26))) →
                                            LB.runs Pr X1 l1 [(.slice s6.a s6.len s6.cap), (.int .i64 n6)] w20 Q1)
                                          (fun D1 w27 =>
                                            brc (b1)
                                              (brc (n5 == (0 : Int))
                                                  (∃ (s12 : SV),
                                                    At Pr w27 (loadVar 22 a4) (.slice s12.a s12.len s12.cap) ∧
                                                    ∃ (s13 : SV),
                                                    At Pr w27 (loadVar 22 a2) (.slice s13.a s13.len s13.cap) ∧
                                                    Calls Pr 30 #[(.slice s12.a s12.len s12.cap), (.slice s13.a s13.len s13.cap)] w27 fun e10 w28 =>
                                                      ∃ (b7 : Bool),
                                                      e10 = .returned (.bool b7) ∧
                                                      ∃ (w29 : World),
                                                      Sem.run Pr (Instr.storeAt 4 (.pointer (some a1)) (.bool b7)) w28 = .ok () w29 ∧
                                                      shutV D1 w29 fun w30 =>
                                                        ∃ (b8 : Bool),
                                                        At Pr w30 (loadVar 4 a1) (.bool b8) ∧
                                                        R (.bool b8) w30)
                                                  (∃ (w31 : World),
                                                    Sem.run Pr (Instr.storeAt 4 (.pointer (some a1)) (.bool false)) w27 = .ok () w31 ∧
                                                    shutV D1 w31 fun w32 =>
                                                      ∃ (b9 : Bool),
                                                      At Pr w32 (loadVar 4 a1) (.bool b9) ∧
                                                      R (.bool b9) w32))
                                              (∃ (w33 : World),
                                                Sem.run Pr (Instr.storeAt 4 (.pointer (some a1)) (.bool false)) w27 = .ok () w33 ∧
                                                shutV D1 w33 fun w34 =>
                                                  ∃ (b10 : Bool),
                                                  At Pr w34 (loadVar 4 a1) (.bool b10) ∧
                                                  R (.bool b10) w34))
                                          (fun D2 w35 =>
                                            shutV D2 w35 fun w36 =>
                                              ∃ (b11 : Bool),
                                              At Pr w36 (loadVar 4 a1) (.bool b11) ∧
                                              R (.bool b11) w36)
                                          (fun _ _ _ =>
                                            False))))) (0, ()) w7))

theorem call5 {x0 : SV} {w0 : World} {R : Ending → World → Prop} (h : ir5 x0 w0 fun v w => R (.returned v) w) : Calls Pr 5 #[.slice x0.a x0.len x0.cap] w0 R := by
  refine calls_of_vcR (ann := [(8, [(32, .int .i64)])]) (E := [(58, 26), (59, 27)]) (args := [.slice x0.a x0.len x0.cap]) follows Try.func5 rfl (by kernel_rfl) ?_
  apply by_eq h
  kernel_rfl

/-- creel/creellaw13.RunTells -/
def ir6 (x0 : SV) (w0 : World) (R : Value → World → Prop) : Prop :=
  ∃ (a1 : Addr) (w1 : World),
  Sem.run Pr (Instr.alloc 4 true (.tuple #[])) w0 = .ok (.pointer (some a1)) w1 ∧
  Calls Pr 20 #[] w1 fun e1 w2 =>
    ∃ (b1 : Bool),
    e1 = .returned (.bool b1) ∧
    ((0 : Int) ≤ (if 1000 < ((x0.len : Nat) : Int) then 1000 else ((x0.len : Nat) : Int)) ∧ (if 1000 < ((x0.len : Nat) : Int) then 1000 else ((x0.len : Nat) : Int)) ≤ ((x0.cap : Nat) : Int)) ∧
    ∃ (a2 : Addr) (w3 : World),
    Sem.run Pr (Instr.alloc 26 true (.tuple #[])) w2 = .ok (.pointer (some a2)) w3 ∧
    ∃ (w4 : World),
    Sem.run Pr (Instr.storeAt 26 (.pointer (some a2)) (.slice (cutAt x0.a 0 x0.cap 1) ((Int.toNat (if 1000 < ((x0.len : Nat) : Int) then 1000 else ((x0.len : Nat) : Int))) - 0) (x0.cap - 0))) w3 = .ok () w4 ∧
    ∃ (s1 : SV),
    At Pr w4 (loadVar 26 a2) (.slice s1.a s1.len s1.cap) ∧
    Calls Pr 31 #[(.slice s1.a s1.len s1.cap)] w4 fun e2 w5 =>
      ∃ (s2 : SV),
      e2 = .returned (.slice s2.a s2.len s2.cap) ∧
      ∃ (a3 : Addr) (w6 : World),
      Sem.run Pr (Instr.alloc 52 true (.tuple #[])) w5 = .ok (.pointer (some a3)) w6 ∧
      ∃ (s3 : SV),
      At Pr w6 (loadVar 26 a2) (.slice s3.a s3.len s3.cap) ∧
      Calls Pr 29 #[(.slice s3.a s3.len s3.cap)] w6 fun e3 w7 =>
        ∃ (f1 : FV),
        e3 = .returned (.func f1.f f1.a f1.b) ∧
        ∃ (b2 : Bool),
        At Pr w7 (do eqGuard .eql 48 (.tmp 30) (.const .nilFunc) (.func f1.f f1.a f1.b) .nilFunc; binOp .eql 48 (.func f1.f f1.a f1.b) .nilFunc) (.bool b2) ∧
        brc (b2)
          (∃ (w8 : World),
            Sem.run Pr (Instr.storeAt 4 (.pointer (some a1)) (.bool false)) w7 = .ok () w8 ∧
            ∃ (b3 : Bool),
            At Pr w8 (loadVar 4 a1) (.bool b3) ∧
            R (.bool b3) w8)
          (rangeV Pr (.func f1.f f1.a f1.b) w7
              (fun X1 l1 =>
                ∀ (s4 : SV) (n1 : Int) (w9 : World) (Q1 : RPost),
                (∃ (w10 : World),
                  Sem.run Pr (Instr.beginRound l1) w9 = .ok () w10 ∧
                  ∃ (s5 : SV),
                  At Pr w10 (loadVar 52 a3) (.slice s5.a s5.len s5.cap) ∧
                  ∃ (s6 : SV) (w11 : World),
                  Sem.run Pr (Instr.buildSlice 52 1 #[(0, (.agg #[(.slice s4.a s4.len s4.cap), (.int .i64 n1)]))]) w10 = .ok (.slice s6.a s6.len s6.cap) w11 ∧
                  ∃ (s7 : SV) (w12 : World),
                  Sem.run Pr (Builtin.append_ #[52, 52] 52 #[(.slice s5.a s5.len s5.cap), (.slice s6.a s6.len s6.cap)]) w11 = .ok (.slice s7.a s7.len s7.cap) w12 ∧
                  ∃ (w13 : World),
                  Sem.run Pr (Instr.storeAt 52 (.pointer (some a3)) (.slice s7.a s7.len s7.cap)) w12 = .ok () w13 ∧
                  ∃ (s8 : SV),
                  At Pr w13 (loadVar 52 a3) (.slice s8.a s8.len s8.cap) ∧
                  ∃ (s9 : SV),
                  At Pr w13 (loadVar 26 a2) (.slice s9.a s9.len s9.cap) ∧
                  brc (decide (((s8.len : Nat) : Int) > (IntKind.wrap .i64 (((s9.len : Nat) : Int) + 1))))
                    (∃ (w14 : World),
                      Sem.run Pr (Instr.storeAt 4 (.pointer (some a1)) (.bool false)) w13 = .ok () w14 ∧
                      RPost.ret Q1 w14)
                    (RPost.nrm Q1 w13)) →
                LB.runs Pr X1 l1 [(.slice s4.a s4.len s4.cap), (.int .i64 n1)] w9 Q1)
              (fun D1 w15 =>
                Calls Pr 25 #[(.int .i64 2000)] w15 fun e4 w16 =>
                  ∃ (p1 : Option Addr),
                  e4 = .returned (.pointer p1) ∧
                  brc (Option.isNone p1)
                    (∃ (w17 : World),
                      Sem.run Pr (Instr.storeAt 4 (.pointer (some a1)) (.bool false)) w16 = .ok () w17 ∧
                      shutV D1 w17 fun w18 =>
                        ∃ (b4 : Bool),
                        At Pr w18 (loadVar 4 a1) (.bool b4) ∧
                        R (.bool b4) w18)
                    (Calls Pr 32 #[(.pointer p1), (.string (⟨#[120]⟩ : ByteArray))] w16 fun e5 w19 =>
                        ∃ (n2 : Int),
                        e5 = .returned (.int .i64 n2) ∧
                        brc (n2 != (0 : Int))
                          (∃ (w20 : World),
                            Sem.run Pr (Instr.storeAt 4 (.pointer (some a1)) (.bool false)) w19 = .ok () w20 ∧
                            shutV D1 w20 fun w21 =>
                              ∃ (b5 : Bool),
                              At Pr w21 (loadVar 4 a1) (.bool b5) ∧
                              R (.bool b5) w21)
                          (∃ (s10 : SV),
                            At Pr w19 (loadVar 26 a2) (.slice s10.a s10.len s10.cap) ∧
                            Calls Pr 33 #[(.pointer p1), (.string (⟨#[120]⟩ : ByteArray)), (.slice s10.a s10.len s10.cap)] w19 fun e6 w22 =>
                              ∃ (n3 : Int),
                              e6 = .returned (.int .i64 n3) ∧
                              brc (n3 != (0 : Int))
                                (∃ (w23 : World),
                                  Sem.run Pr (Instr.storeAt 4 (.pointer (some a1)) (.bool false)) w22 = .ok () w23 ∧
                                  shutV D1 w23 fun w24 =>
                                    ∃ (b6 : Bool),
                                    At Pr w24 (loadVar 4 a1) (.bool b6) ∧
                                    R (.bool b6) w24)
                                (∃ (s11 : SV),
                                  At Pr w22 (loadVar 52 a3) (.slice s11.a s11.len s11.cap) ∧
                                  brc (((s11.len : Nat) : Int) != ((s2.len : Nat) : Int))
                                    (∃ (w25 : World),
                                      Sem.run Pr (Instr.storeAt 4 (.pointer (some a1)) (.bool false)) w22 = .ok () w25 ∧
                                      shutV D1 w25 fun w26 =>
                                        ∃ (b7 : Bool),
                                        At Pr w26 (loadVar 4 a1) (.bool b7) ∧
                                        R (.bool b7) w26)
                                    (Calls Pr 34 #[(.pointer p1), (.string (⟨#[120]⟩ : ByteArray))] w22 fun e7 w27 =>
                                        ∃ (p2 : Option Addr) (n4 : Int),
                                        e7 = .returned (.tuple #[(.pointer p2), (.int .i64 n4)]) ∧
                                        brc (Option.isNone p2)
                                          (∃ (w28 : World),
                                            Sem.run Pr (Instr.storeAt 4 (.pointer (some a1)) (.bool false)) w27 = .ok () w28 ∧
                                            shutV D1 w28 fun w29 =>
                                              ∃ (b8 : Bool),
                                              At Pr w29 (loadVar 4 a1) (.bool b8) ∧
                                              R (.bool b8) w29)
                                          (brc (n4 != (0 : Int))
                                              (∃ (w30 : World),
                                                Sem.run Pr (Instr.storeAt 4 (.pointer (some a1)) (.bool false)) w27 = .ok () w30 ∧
                                                shutV D1 w30 fun w31 =>
                                                  ∃ (b9 : Bool),
                                                  At Pr w31 (loadVar 4 a1) (.bool b9) ∧
                                                  R (.bool b9) w31)
                                              (LoopT (σ := Int × Unit) (fun σ1 w32 K1 =>
                                                  ∀ _ : Env,
                                                  brc (decide (σ1.1 < ((s2.len : Nat) : Int)))
                                                    (((0 : Int) ≤ σ1.1 ∧ σ1.1 < ((s2.len : Nat) : Int)) ∧
                                                      optK s2.a fun a4 =>
                                                        ∃ (s12 : SV) (n5 : Int),
                                                        At Pr w32 (loadVar 55 (Addr.add a4 (Int.toNat σ1.1 * 2))) (.agg #[(.slice s12.a s12.len s12.cap), (.int .i64 n5)]) ∧
                                                        ∃ (a5 : Addr) (w33 : World),
                                                        Sem.run Pr (Instr.alloc 55 true (.tuple #[])) w32 = .ok (.pointer (some a5)) w33 ∧
                                                        ∃ (w34 : World),
                                                        Sem.run Pr (Instr.storeAt 55 (.pointer (some a5)) (.agg #[(.slice s12.a s12.len s12.cap), (.int .i64 n5)])) w33 = .ok () w34 ∧
                                                        Calls Pr 21 #[(.pointer p2)] w34 fun e8 w35 =>
                                                          ∃ (s13 : SV) (b10 : Bool) (n6 : Int),
                                                          e8 = .returned (.tuple #[(.agg #[(.slice s13.a s13.len s13.cap), (.bool b10)]), (.int .i64 n6)]) ∧
                                                          ∃ (a6 : Addr) (w36 : World),
                                                          Sem.run Pr (Instr.alloc 34 true (.tuple #[])) w35 = .ok (.pointer (some a6)) w36 ∧
                                                          ∃ (w37 : World),
                                                          Sem.run Pr (Instr.storeAt 34 (.pointer (some a6)) (.agg #[(.slice s13.a s13.len s13.cap), (.bool b10)])) w36 = .ok () w37 ∧
                                                          ∃ (S1 : World → Prop),
                                                          S1 (World.drew w37) ∧
                                                          ∃ (s14 : SV),
                                                          AtS Pr S1 (loadVar 52 a3) (.slice s14.a s14.len s14.cap) ∧
                                                          ((0 : Int) ≤ σ1.1 ∧ σ1.1 < ((s14.len : Nat) : Int)) ∧
                                                          optK s14.a fun a7 =>
                                                            ∃ (n7 : Int),
                                                            AtS Pr S1 (loadVar 27 (Addr.add (Addr.add a7 (Int.toNat σ1.1 * 2)) 1)) (.int .i64 n7) ∧
                                                            ∃ (n8 : Int),
                                                            AtS Pr S1 (loadVar 27 (Addr.add a5 1)) (.int .i64 n8) ∧
                                                            brc (n7 != n8)
                                                              (∃ (w38 : World),
                                                                Sem.run Pr (Instr.storeAt 4 (.pointer (some a1)) (.bool false)) (World.drew w37) = .ok () w38 ∧
                                                                shutV D1 w38 fun w39 =>
                                                                  ∃ (b11 : Bool),
                                                                  At Pr w39 (loadVar 4 a1) (.bool b11) ∧
                                                                  R (.bool b11) w39)
                                                              (∃ (s15 : SV),
                                                                AtS Pr S1 (loadVar 52 a3) (.slice s15.a s15.len s15.cap) ∧
                                                                ((0 : Int) ≤ σ1.1 ∧ σ1.1 < ((s15.len : Nat) : Int)) ∧
                                                                optK s15.a fun a8 =>
                                                                  ∃ (s16 : SV),
                                                                  AtS Pr S1 (loadVar 26 (Addr.add (Addr.add a8 (Int.toNat σ1.1 * 2)) 0)) (.slice s16.a s16.len s16.cap) ∧
                                                                  ∃ (str1 : ByteArray),
                                                                  AtS Pr S1 (convert 26 9 (.slice s16.a s16.len s16.cap)) (.string str1) ∧
                                                                  ∃ (s17 : SV),
                                                                  AtS Pr S1 (loadVar 26 (Addr.add a5 0)) (.slice s17.a s17.len s17.cap) ∧
                                                                  ∃ (str2 : ByteArray),
                                                                  AtS Pr S1 (convert 26 9 (.slice s17.a s17.len s17.cap)) (.string str2) ∧
                                                                  brc (!(ByteArray.toList str1 == ByteArray.toList str2))
                                                                    (∃ (w40 : World),
                                                                      Sem.run Pr (Instr.storeAt 4 (.pointer (some a1)) (.bool false)) (World.drew w37) = .ok () w40 ∧
                                                                      shutV D1 w40 fun w41 =>
                                                                        ∃ (b12 : Bool),
                                                                        At Pr w41 (loadVar 4 a1) (.bool b12) ∧
                                                                        R (.bool b12) w41)
                                                                    (∃ (n9 : Int),
                                                                      AtS Pr S1 (loadVar 27 (Addr.add a5 1)) (.int .i64 n9) ∧
                                                                      brc (n6 != n9)
                                                                        (∃ (w42 : World),
                                                                          Sem.run Pr (Instr.storeAt 4 (.pointer (some a1)) (.bool false)) (World.drew w37) = .ok () w42 ∧
                                                                          shutV D1 w42 fun w43 =>
                                                                            ∃ (b13 : Bool),
                                                                            At Pr w43 (loadVar 4 a1) (.bool b13) ∧
                                                                            R (.bool b13) w43)
                                                                        (∃ (b14 : Bool),
                                                                          AtS Pr S1 (loadVar 4 (Addr.add a6 1)) (.bool b14) ∧
                                                                          ∃ (n10 : Int),
                                                                          AtS Pr S1 (loadVar 27 (Addr.add a5 1)) (.int .i64 n10) ∧
                                                                          brc (!(b14 == (n10 == (0 : Int))))
                                                                            (∃ (w44 : World),
                                                                              Sem.run Pr (Instr.storeAt 4 (.pointer (some a1)) (.bool false)) (World.drew w37) = .ok () w44 ∧
                                                                              shutV D1 w44 fun w45 =>
                                                                                ∃ (b15 : Bool),
                                                                                At Pr w45 (loadVar 4 a1) (.bool b15) ∧
                                                                                R (.bool b15) w45)
                                                                            (∃ (s18 : SV),
                                                                              AtS Pr S1 (loadVar 26 (Addr.add a6 0)) (.slice s18.a s18.len s18.cap) ∧
                                                                              ∃ (str3 : ByteArray),
                                                                              AtS Pr S1 (convert 26 9 (.slice s18.a s18.len s18.cap)) (.string str3) ∧
                                                                              ∃ (s19 : SV),
                                                                              AtS Pr S1 (loadVar 26 (Addr.add a5 0)) (.slice s19.a s19.len s19.cap) ∧
                                                                              ∃ (str4 : ByteArray),
                                                                              AtS Pr S1 (convert 26 9 (.slice s19.a s19.len s19.cap)) (.string str4) ∧
                                                                              brc (!(ByteArray.toList str3 == ByteArray.toList str4))
                                                                                (∃ (w46 : World),
                                                                                  Sem.run Pr (Instr.storeAt 4 (.pointer (some a1)) (.bool false)) (World.drew w37) = .ok () w46 ∧
                                                                                  shutV D1 w46 fun w47 =>
                                                                                    ∃ (b16 : Bool),
                                                                                    At Pr w47 (loadVar 4 a1) (.bool b16) ∧
                                                                                    R (.bool b16) w47)
                                                                                (K1 (IntKind.wrap .i64 (σ1.1 + 1), ()) (World.drew w37)))))))
                                                    (brc (decide (((s2.len : Nat) : Int) > (0 : Int)))
                                                        (((0 : Int) ≤ (IntKind.wrap .i64 (((s2.len : Nat) : Int) - 1)) ∧ (IntKind.wrap .i64 (((s2.len : Nat) : Int) - 1)) < ((s2.len : Nat) : Int)) ∧
                                                          optK s2.a fun a9 =>
                                                            ∃ (n11 : Int),
                                                            At Pr w32 (loadVar 27 (Addr.add (Addr.add a9 (Int.toNat (IntKind.wrap .i64 (((s2.len : Nat) : Int) - 1)) * 2)) 1)) (.int .i64 n11) ∧
                                                            Calls Pr 21 #[(.pointer p2)] w32 fun e9 w48 =>
                                                              ∃ (s20 : SV) (b17 : Bool) (n12 : Int),
                                                              e9 = .returned (.tuple #[(.agg #[(.slice s20.a s20.len s20.cap), (.bool b17)]), (.int .i64 n12)]) ∧
                                                              ∃ (a10 : Addr) (w49 : World),
                                                              Sem.run Pr (Instr.alloc 34 true (.tuple #[])) w48 = .ok (.pointer (some a10)) w49 ∧
                                                              ∃ (w50 : World),
                                                              Sem.run Pr (Instr.storeAt 34 (.pointer (some a10)) (.agg #[(.slice s20.a s20.len s20.cap), (.bool b17)])) w49 = .ok () w50 ∧
                                                              brc (b1)
                                                                (∃ (b18 : Bool),
                                                                  At Pr w50 (loadVar 4 (Addr.add a10 1)) (.bool b18) ∧
                                                                  brc (!b18)
                                                                    (∃ (s21 : SV),
                                                                      At Pr w50 (loadVar 26 (Addr.add a10 0)) (.slice s21.a s21.len s21.cap) ∧
                                                                      brc (((s21.len : Nat) : Int) == (0 : Int))
                                                                        (∃ (w51 : World),
                                                                          Sem.run Pr (Instr.storeAt 4 (.pointer (some a1)) (.bool (n12 == n11))) w50 = .ok () w51 ∧
                                                                          shutV D1 w51 fun w52 =>
                                                                            ∃ (b19 : Bool),
                                                                            At Pr w52 (loadVar 4 a1) (.bool b19) ∧
                                                                            R (.bool b19) w52)
                                                                        (∃ (w53 : World),
                                                                          Sem.run Pr (Instr.storeAt 4 (.pointer (some a1)) (.bool false)) w50 = .ok () w53 ∧
                                                                          shutV D1 w53 fun w54 =>
                                                                            ∃ (b20 : Bool),
                                                                            At Pr w54 (loadVar 4 a1) (.bool b20) ∧
                                                                            R (.bool b20) w54))
                                                                    (∃ (w55 : World),
                                                                      Sem.run Pr (Instr.storeAt 4 (.pointer (some a1)) (.bool false)) w50 = .ok () w55 ∧
                                                                      shutV D1 w55 fun w56 =>
                                                                        ∃ (b21 : Bool),
                                                                        At Pr w56 (loadVar 4 a1) (.bool b21) ∧
                                                                        R (.bool b21) w56))
                                                                (∃ (w57 : World),
                                                                  Sem.run Pr (Instr.storeAt 4 (.pointer (some a1)) (.bool false)) w50 = .ok () w57 ∧
                                                                  shutV D1 w57 fun w58 =>
                                                                    ∃ (b22 : Bool),
                                                                    At Pr w58 (loadVar 4 a1) (.bool b22) ∧
                                                                    R (.bool b22) w58))
                                                        (Calls Pr 21 #[(.pointer p2)] w32 fun e10 w59 =>
                                                            ∃ (s22 : SV) (b23 : Bool) (n13 : Int),
                                                            e10 = .returned (.tuple #[(.agg #[(.slice s22.a s22.len s22.cap), (.bool b23)]), (.int .i64 n13)]) ∧
                                                            ∃ (a11 : Addr) (w60 : World),
                                                            Sem.run Pr (Instr.alloc 34 true (.tuple #[])) w59 = .ok (.pointer (some a11)) w60 ∧
                                                            ∃ (w61 : World),
                                                            Sem.run Pr (Instr.storeAt 34 (.pointer (some a11)) (.agg #[(.slice s22.a s22.len s22.cap), (.bool b23)])) w60 = .ok () w61 ∧
                                                            brc (b1)
                                                              (∃ (b24 : Bool),
                                                                At Pr w61 (loadVar 4 (Addr.add a11 1)) (.bool b24) ∧
                                                                brc (!b24)
                                                                  (∃ (s23 : SV),
                                                                    At Pr w61 (loadVar 26 (Addr.add a11 0)) (.slice s23.a s23.len s23.cap) ∧
                                                                    brc (((s23.len : Nat) : Int) == (0 : Int))
                                                                      (∃ (w62 : World),
                                                                        Sem.run Pr (Instr.storeAt 4 (.pointer (some a1)) (.bool (n13 == (0 : Int)))) w61 = .ok () w62 ∧
                                                                        shutV D1 w62 fun w63 =>
                                                                          ∃ (b25 : Bool),
                                                                          At Pr w63 (loadVar 4 a1) (.bool b25) ∧
                                                                          R (.bool b25) w63)
                                                                      (∃ (w64 : World),
                                                                        Sem.run Pr (Instr.storeAt 4 (.pointer (some a1)) (.bool false)) w61 = .ok () w64 ∧
                                                                        shutV D1 w64 fun w65 =>
                                                                          ∃ (b26 : Bool),
                                                                          At Pr w65 (loadVar 4 a1) (.bool b26) ∧
                                                                          R (.bool b26) w65))
                                                                  (∃ (w66 : World),
                                                                    Sem.run Pr (Instr.storeAt 4 (.pointer (some a1)) (.bool false)) w61 = .ok () w66 ∧
                                                                    shutV D1 w66 fun w67 =>
                                                                      ∃ (b27 : Bool),
                                                                      At Pr w67 (loadVar 4 a1) (.bool b27) ∧
                                                                      R (.bool b27) w67))
                                                              (∃ (w68 : World),
                                                                Sem.run Pr (Instr.storeAt 4 (.pointer (some a1)) (.bool false)) w61 = .ok () w68 ∧
                                                                shutV D1 w68 fun w69 =>
                                                                  ∃ (b28 : Bool),
                                                                  At Pr w69 (loadVar 4 a1) (.bool b28) ∧
                                                                  R (.bool b28) w69)))) (0, ()) w27)))))))
              (fun D2 w70 =>
                shutV D2 w70 fun w71 =>
                  ∃ (b29 : Bool),
                  At Pr w71 (loadVar 4 a1) (.bool b29) ∧
                  R (.bool b29) w71)
              (fun _ _ _ =>
                False))

theorem call6 {x0 : SV} {w0 : World} {R : Ending → World → Prop} (h : ir6 x0 w0 fun v w => R (.returned v) w) : Calls Pr 6 #[.slice x0.a x0.len x0.cap] w0 R := by
  refine calls_of_vcR (ann := [(21, [(81, .int .i64)])]) (E := [(33, 26), (34, 27)]) (args := [.slice x0.a x0.len x0.cap]) follows Try.func6 rfl (by kernel_rfl) ?_
  apply by_eq h
  kernel_rfl

/-- creel/place.fill -/
def ir116 (x0 : Option Addr) (x1 : SV) (w0 : World) (R : Value → World → Prop) : Prop :=
  ∃ (a1 : Addr) (w1 : World),
  Sem.run Pr (Instr.box 41 (.pointer x0)) w0 = .ok (.pointer (some a1)) w1 ∧
  ∃ (a2 : Addr) (w2 : World),
  Sem.run Pr (Instr.alloc 27 true (.tuple #[])) w1 = .ok (.pointer (some a2)) w2 ∧
  Calls Pr 147 #[(.slice x1.a x1.len x1.cap), (.int .i64 64)] w2 fun e1 w3 =>
    ∃ (f1 : FV),
    e1 = .returned (.func f1.f f1.a f1.b) ∧
    rangeV Pr (.func f1.f f1.a f1.b) w3
      (fun X1 l1 =>
        ∀ (s1 : SV) (w4 : World) (Q1 : RPost),
        (∃ (w5 : World),
          Sem.run Pr (Instr.beginRound l1) w4 = .ok () w5 ∧
          ∃ (p1 : Option Addr),
          At Pr w5 (loadVar 41 a1) (.pointer p1) ∧
          Calls Pr 33 #[(.pointer p1), (.string (⟨#[116, 109, 112]⟩ : ByteArray)), (.slice s1.a s1.len s1.cap)] w5 fun e2 w6 =>
            ∃ (n1 : Int),
            e2 = .returned (.int .i64 n1) ∧
            brc (n1 != (0 : Int))
              (∃ (w7 : World),
                Sem.run Pr (Instr.storeAt 27 (.pointer (some a2)) (.int .i64 n1)) w6 = .ok () w7 ∧
                RPost.ret Q1 w7)
              (RPost.nrm Q1 w6)) →
        LB.runs Pr X1 l1 [(.slice s1.a s1.len s1.cap)] w4 Q1)
      (fun D1 w8 =>
        ∃ (w9 : World),
        Sem.run Pr (Instr.storeAt 27 (.pointer (some a2)) (.int .i64 0)) w8 = .ok () w9 ∧
        shutV D1 w9 fun w10 =>
          ∃ (n2 : Int),
          At Pr w10 (loadVar 27 a2) (.int .i64 n2) ∧
          R (.int .i64 n2) w10)
      (fun D2 w11 =>
        shutV D2 w11 fun w12 =>
          ∃ (n3 : Int),
          At Pr w12 (loadVar 27 a2) (.int .i64 n3) ∧
          R (.int .i64 n3) w12)
      (fun _ _ _ =>
        False)

theorem call116 {x0 : Option Addr} {x1 : SV} {w0 : World} {R : Ending → World → Prop} (h : ir116 x0 x1 w0 fun v w => R (.returned v) w) : Calls Pr 116 #[.pointer x0, .slice x1.a x1.len x1.cap] w0 R := by
  refine calls_of_vcR (ann := []) (E := [(9, 26)]) (args := [.pointer x0, .slice x1.a x1.len x1.cap]) follows Try.func116 rfl (by kernel_rfl) ?_
  apply by_eq h
  kernel_rfl

end Go.Proofs.Ytonjaaljnjjjcaa
