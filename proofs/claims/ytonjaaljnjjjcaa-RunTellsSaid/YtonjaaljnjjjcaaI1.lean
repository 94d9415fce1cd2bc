/- What 'vc' of these functions comes to, and their calls by it. Printed by dec.py. -/
import Derived.Test.YtonjaaljnjjjcaaP0
set_option linter.unusedVariables false
set_option linter.unusedSimpArgs false
namespace Go.Proofs.Ytonjaaljnjjjcaa
open Go

/-- creel/creellaw13.RunNil -/
def ir4 (x0 : SV) (x1 : ByteArray) (w0 : World) (R : Value → World → Prop) : Prop :=
  Calls Pr 20 #[] w0 fun e1 w1 =>
    ∃ (b1 : Bool),
    e1 = .returned (.bool b1) ∧
    Calls Pr 21 #[(.pointer none)] w1 fun e2 w2 =>
      ∃ (s1 : SV) (b2 : Bool) (n1 : Int),
      e2 = .returned (.tuple #[(.agg #[(.slice s1.a s1.len s1.cap), (.bool b2)]), (.int .i64 n1)]) ∧
      ∃ (a1 : Addr) (w3 : World),
      Sem.run Pr (Instr.alloc 34 true (.tuple #[])) w2 = .ok (.pointer (some a1)) w3 ∧
      ∃ (w4 : World),
      Sem.run Pr (Instr.storeAt 34 (.pointer (some a1)) (.agg #[(.slice s1.a s1.len s1.cap), (.bool b2)])) w3 = .ok () w4 ∧
      brc (b1)
        (Calls Pr 22 #[(.pointer none), (.slice x0.a x0.len x0.cap)] w4 fun e3 w5 =>
            ∃ (n2 : Int),
            e3 = .returned (.int .i64 n2) ∧
            brc (n2 == (2 : Int))
              (Calls Pr 23 #[(.pointer none), (.string x1)] w5 fun e4 w6 =>
                  ∃ (n3 : Int),
                  e4 = .returned (.int .i64 n3) ∧
                  brc (n3 == (2 : Int))
                    (Calls Pr 24 #[(.pointer none)] w6 fun e5 w7 =>
                        ∃ (n4 : Int),
                        e5 = .returned (.int .i64 n4) ∧
                        brc (n4 == (0 : Int))
                          (∃ (b3 : Bool),
                            At Pr w7 (loadVar 4 (Addr.add a1 1)) (.bool b3) ∧
                            brc (!b3)
                              (R (.bool (n1 == (2 : Int))) w7)
                              (R (.bool false) w7))
                          (R (.bool false) w7))
                    (R (.bool false) w6))
              (R (.bool false) w5))
        (R (.bool false) w4)

theorem call4 {x0 : SV} {x1 : ByteArray} {w0 : World} {R : Ending → World → Prop} (h : ir4 x0 x1 w0 fun v w => R (.returned v) w) : Calls Pr 4 #[.slice x0.a x0.len x0.cap, .string x1] w0 R := by
  refine calls_of_vc (ann := []) (E := []) (args := [.slice x0.a x0.len x0.cap, .string x1]) follows Try.func4 rfl (by kernel_rfl) ?_
  apply by_eq h
  kernel_rfl

/-- creel/creellaw13.shown -/
def ir20 (w0 : World) (R : Value → World → Prop) : Prop :=
  Calls Pr 25 #[(.int .i64 100)] w0 fun e1 w1 =>
    ∃ (p1 : Option Addr),
    e1 = .returned (.pointer p1) ∧
    Calls Pr 27 #[(.pointer p1)] w1 fun e2 w2 =>
      ∃ (p2 : Option Addr) (n1 : Int),
      e2 = .returned (.tuple #[(.pointer p2), (.int .i64 n1)]) ∧
      brc (Option.isNone p2)
        (R (.bool false) w2)
        (brc (n1 != (0 : Int))
            (R (.bool false) w2)
            (∃ (s1 : SV) (w3 : World),
              Sem.run Pr (Instr.buildSlice 26 1 #[(0, (.int .u8 97))]) w2 = .ok (.slice s1.a s1.len s1.cap) w3 ∧
              ∃ (s2 : SV) (w4 : World),
              Sem.run Pr (convert 26 26 (.slice s1.a s1.len s1.cap)) w3 = .ok (.slice s2.a s2.len s2.cap) w4 ∧
              Calls Pr 22 #[(.pointer p2), (.slice s2.a s2.len s2.cap)] w4 fun e3 w5 =>
                ∃ (n2 : Int),
                e3 = .returned (.int .i64 n2) ∧
                brc (n2 != (0 : Int))
                  (R (.bool false) w5)
                  (∃ (s3 : SV) (w6 : World),
                    Sem.run Pr (Instr.buildSlice 26 1 #[(0, (.int .u8 97))]) w5 = .ok (.slice s3.a s3.len s3.cap) w6 ∧
                    ∃ (s4 : SV) (w7 : World),
                    Sem.run Pr (convert 26 26 (.slice s3.a s3.len s3.cap)) w6 = .ok (.slice s4.a s4.len s4.cap) w7 ∧
                    Calls Pr 22 #[(.pointer p2), (.slice s4.a s4.len s4.cap)] w7 fun e4 w8 =>
                      ∃ (n3 : Int),
                      e4 = .returned (.int .i64 n3) ∧
                      brc (n3 != (130 : Int))
                        (R (.bool false) w8)
                        (∃ (s5 : SV) (w9 : World),
                          Sem.run Pr (Instr.buildSlice 26 1 #[(0, (.int .u8 98))]) w8 = .ok (.slice s5.a s5.len s5.cap) w9 ∧
                          ∃ (s6 : SV) (w10 : World),
                          Sem.run Pr (convert 26 26 (.slice s5.a s5.len s5.cap)) w9 = .ok (.slice s6.a s6.len s6.cap) w10 ∧
                          Calls Pr 22 #[(.pointer p2), (.slice s6.a s6.len s6.cap)] w10 fun e5 w11 =>
                            ∃ (n4 : Int),
                            e5 = .returned (.int .i64 n4) ∧
                            brc (n4 != (0 : Int))
                              (R (.bool false) w11)
                              (Calls Pr 23 #[(.pointer p2), (.string (⟨#[120]⟩ : ByteArray))] w11 fun e6 w12 =>
                                  ∃ (n5 : Int),
                                  e6 = .returned (.int .i64 n5) ∧
                                  brc (n5 != (0 : Int))
                                    (R (.bool false) w12)
                                    (Calls Pr 28 #[(.pointer p1), (.string (⟨#[120]⟩ : ByteArray))] w12 fun e7 w13 =>
                                        ∃ (s7 : SV) (n6 : Int),
                                        e7 = .returned (.tuple #[(.slice s7.a s7.len s7.cap), (.int .i64 n6)]) ∧
                                        ∃ (S1 : World → Prop),
                                        S1 (World.drew w13) ∧
                                        brc (n6 == (0 : Int))
                                          (∃ (str1 : ByteArray),
                                            AtS Pr S1 (convert 26 9 (.slice s7.a s7.len s7.cap)) (.string str1) ∧
                                            (∃ (s8 : SV) (w14 : World),
                                            Sem.run Pr (Instr.buildSlice 26 1 #[(0, (.int .u8 97))]) (World.drew w13) = .ok (.slice s8.a s8.len s8.cap) w14 ∧
                                            ∃ (S2 : World → Prop),
                                            (∀ w, S2 w → S1 w) ∧
                                            S2 w14 ∧
                                            (∃ (s9 : SV) (w15 : World),
                                            Sem.run Pr (convert 26 26 (.slice s8.a s8.len s8.cap)) w14 = .ok (.slice s9.a s9.len s9.cap) w15 ∧
                                            ∃ (S3 : World → Prop),
                                            (∀ w, S3 w → S2 w) ∧
                                            S3 w15 ∧
                                            ∃ (s10 : SV) (w16 : World),
                                            Sem.run Pr (Instr.buildSlice 26 1 #[(0, (.int .u8 98))]) w15 = .ok (.slice s10.a s10.len s10.cap) w16 ∧
                                            ∃ (S4 : World → Prop),
                                            (∀ w, S4 w → S3 w) ∧
                                            S4 w16 ∧
                                            ∃ (s11 : SV) (w17 : World),
                                            Sem.run Pr (convert 26 26 (.slice s10.a s10.len s10.cap)) w16 = .ok (.slice s11.a s11.len s11.cap) w17 ∧
                                            ∃ (S5 : World → Prop),
                                            (∀ w, S5 w → S4 w) ∧
                                            S5 w17 ∧
                                            ∃ (s12 : SV) (w18 : World),
                                            Sem.run Pr (Instr.buildSlice 22 2 #[(0, (.slice s9.a s9.len s9.cap)), (1, (.slice s11.a s11.len s11.cap))]) w17 = .ok (.slice s12.a s12.len s12.cap) w18 ∧
                                            ∃ (S6 : World → Prop),
                                            (∀ w, S6 w → S5 w) ∧
                                            S6 w18 ∧
                                            Calls Pr 66 #[(.slice s12.a s12.len s12.cap)] w18 fun e8 w19 =>
                                              ∃ (s13 : SV),
                                              e8 = .returned (.slice s13.a s13.len s13.cap) ∧
                                              ∃ (S7 : World → Prop),
                                              (∀ w, S7 w → S6 w) ∧
                                              S7 w19 ∧
                                              ∃ (str2 : ByteArray),
                                              AtS Pr S7 (convert 26 9 (.slice s13.a s13.len s13.cap)) (.string str2) ∧
                                              brc ((ByteArray.toList str1 == ByteArray.toList str2))
                                                (Calls Pr 24 #[(.pointer p2)] w19 fun e9 w20 =>
                                                    ∃ (n7 : Int),
                                                    e9 = .returned (.int .i64 n7) ∧
                                                    ∃ (S8 : World → Prop),
                                                    (∀ w, S8 w → S7 w) ∧
                                                    S8 w20 ∧
                                                    R (.bool (n7 == (2 : Int))) w20)
                                                (R (.bool false) w19)) ∧
                                            ∃ (s14 : SV) (w21 : World),
                                            Sem.run Pr (Instr.buildSlice 26 1 #[(0, (.int .u8 98))]) w14 = .ok (.slice s14.a s14.len s14.cap) w21 ∧
                                            ∃ (S9 : World → Prop),
                                            (∀ w, S9 w → S2 w) ∧
                                            S9 w21 ∧
                                            (∃ (s15 : SV) (w22 : World),
                                            Sem.run Pr (convert 26 26 (.slice s8.a s8.len s8.cap)) w21 = .ok (.slice s15.a s15.len s15.cap) w22 ∧
                                            ∃ (S10 : World → Prop),
                                            (∀ w, S10 w → S9 w) ∧
                                            S10 w22 ∧
                                            ∃ (s16 : SV) (w23 : World),
                                            Sem.run Pr (convert 26 26 (.slice s14.a s14.len s14.cap)) w22 = .ok (.slice s16.a s16.len s16.cap) w23 ∧
                                            ∃ (S11 : World → Prop),
                                            (∀ w, S11 w → S10 w) ∧
                                            S11 w23 ∧
                                            ∃ (s17 : SV) (w24 : World),
                                            Sem.run Pr (Instr.buildSlice 22 2 #[(0, (.slice s15.a s15.len s15.cap)), (1, (.slice s16.a s16.len s16.cap))]) w23 = .ok (.slice s17.a s17.len s17.cap) w24 ∧
                                            ∃ (S12 : World → Prop),
                                            (∀ w, S12 w → S11 w) ∧
                                            S12 w24 ∧
                                            Calls Pr 66 #[(.slice s17.a s17.len s17.cap)] w24 fun e10 w25 =>
                                              ∃ (s18 : SV),
                                              e10 = .returned (.slice s18.a s18.len s18.cap) ∧
                                              ∃ (S13 : World → Prop),
                                              (∀ w, S13 w → S12 w) ∧
                                              S13 w25 ∧
                                              ∃ (str3 : ByteArray),
                                              AtS Pr S13 (convert 26 9 (.slice s18.a s18.len s18.cap)) (.string str3) ∧
                                              brc ((ByteArray.toList str1 == ByteArray.toList str3))
                                                (Calls Pr 24 #[(.pointer p2)] w25 fun e11 w26 =>
                                                    ∃ (n8 : Int),
                                                    e11 = .returned (.int .i64 n8) ∧
                                                    ∃ (S14 : World → Prop),
                                                    (∀ w, S14 w → S13 w) ∧
                                                    S14 w26 ∧
                                                    R (.bool (n8 == (2 : Int))) w26)
                                                (R (.bool false) w25)) ∧
                                            ∃ (s19 : SV) (w27 : World),
                                            Sem.run Pr (convert 26 26 (.slice s14.a s14.len s14.cap)) w21 = .ok (.slice s19.a s19.len s19.cap) w27 ∧
                                            ∃ (S15 : World → Prop),
                                            (∀ w, S15 w → S9 w) ∧
                                            S15 w27 ∧
                                            ∃ (s20 : SV) (w28 : World),
                                            Sem.run Pr (convert 26 26 (.slice s8.a s8.len s8.cap)) w27 = .ok (.slice s20.a s20.len s20.cap) w28 ∧
                                            ∃ (S16 : World → Prop),
                                            (∀ w, S16 w → S15 w) ∧
                                            S16 w28 ∧
                                            ∃ (s21 : SV) (w29 : World),
                                            Sem.run Pr (Instr.buildSlice 22 2 #[(0, (.slice s20.a s20.len s20.cap)), (1, (.slice s19.a s19.len s19.cap))]) w28 = .ok (.slice s21.a s21.len s21.cap) w29 ∧
                                            ∃ (S17 : World → Prop),
                                            (∀ w, S17 w → S16 w) ∧
                                            S17 w29 ∧
                                            Calls Pr 66 #[(.slice s21.a s21.len s21.cap)] w29 fun e12 w30 =>
                                              ∃ (s22 : SV),
                                              e12 = .returned (.slice s22.a s22.len s22.cap) ∧
                                              ∃ (S18 : World → Prop),
                                              (∀ w, S18 w → S17 w) ∧
                                              S18 w30 ∧
                                              ∃ (str4 : ByteArray),
                                              AtS Pr S18 (convert 26 9 (.slice s22.a s22.len s22.cap)) (.string str4) ∧
                                              brc ((ByteArray.toList str1 == ByteArray.toList str4))
                                                (Calls Pr 24 #[(.pointer p2)] w30 fun e13 w31 =>
                                                    ∃ (n9 : Int),
                                                    e13 = .returned (.int .i64 n9) ∧
                                                    ∃ (S19 : World → Prop),
                                                    (∀ w, S19 w → S18 w) ∧
                                                    S19 w31 ∧
                                                    R (.bool (n9 == (2 : Int))) w31)
                                                (R (.bool false) w30)) ∧
                                            ∃ (s23 : SV) (w32 : World),
                                            Sem.run Pr (Instr.buildSlice 26 1 #[(0, (.int .u8 98))]) (World.drew w13) = .ok (.slice s23.a s23.len s23.cap) w32 ∧
                                            ∃ (S20 : World → Prop),
                                            (∀ w, S20 w → S1 w) ∧
                                            S20 w32 ∧
                                            (∃ (s24 : SV) (w33 : World),
                                            Sem.run Pr (Instr.buildSlice 26 1 #[(0, (.int .u8 97))]) w32 = .ok (.slice s24.a s24.len s24.cap) w33 ∧
                                            ∃ (S21 : World → Prop),
                                            (∀ w, S21 w → S20 w) ∧
                                            S21 w33 ∧
                                            (∃ (s25 : SV) (w34 : World),
                                            Sem.run Pr (convert 26 26 (.slice s24.a s24.len s24.cap)) w33 = .ok (.slice s25.a s25.len s25.cap) w34 ∧
                                            ∃ (S22 : World → Prop),
                                            (∀ w, S22 w → S21 w) ∧
                                            S22 w34 ∧
                                            ∃ (s26 : SV) (w35 : World),
                                            Sem.run Pr (convert 26 26 (.slice s23.a s23.len s23.cap)) w34 = .ok (.slice s26.a s26.len s26.cap) w35 ∧
                                            ∃ (S23 : World → Prop),
                                            (∀ w, S23 w → S22 w) ∧
                                            S23 w35 ∧
                                            ∃ (s27 : SV) (w36 : World),
                                            Sem.run Pr (Instr.buildSlice 22 2 #[(0, (.slice s25.a s25.len s25.cap)), (1, (.slice s26.a s26.len s26.cap))]) w35 = .ok (.slice s27.a s27.len s27.cap) w36 ∧
                                            ∃ (S24 : World → Prop),
                                            (∀ w, S24 w → S23 w) ∧
                                            S24 w36 ∧
                                            Calls Pr 66 #[(.slice s27.a s27.len s27.cap)] w36 fun e14 w37 =>
                                              ∃ (s28 : SV),
                                              e14 = .returned (.slice s28.a s28.len s28.cap) ∧
                                              ∃ (S25 : World → Prop),
                                              (∀ w, S25 w → S24 w) ∧
                                              S25 w37 ∧
                                              ∃ (str5 : ByteArray),
                                              AtS Pr S25 (convert 26 9 (.slice s28.a s28.len s28.cap)) (.string str5) ∧
                                              brc ((ByteArray.toList str1 == ByteArray.toList str5))
                                                (Calls Pr 24 #[(.pointer p2)] w37 fun e15 w38 =>
                                                    ∃ (n10 : Int),
                                                    e15 = .returned (.int .i64 n10) ∧
                                                    ∃ (S26 : World → Prop),
                                                    (∀ w, S26 w → S25 w) ∧
                                                    S26 w38 ∧
                                                    R (.bool (n10 == (2 : Int))) w38)
                                                (R (.bool false) w37)) ∧
                                            ∃ (s29 : SV) (w39 : World),
                                            Sem.run Pr (convert 26 26 (.slice s23.a s23.len s23.cap)) w33 = .ok (.slice s29.a s29.len s29.cap) w39 ∧
                                            ∃ (S27 : World → Prop),
                                            (∀ w, S27 w → S21 w) ∧
                                            S27 w39 ∧
                                            ∃ (s30 : SV) (w40 : World),
                                            Sem.run Pr (convert 26 26 (.slice s24.a s24.len s24.cap)) w39 = .ok (.slice s30.a s30.len s30.cap) w40 ∧
                                            ∃ (S28 : World → Prop),
                                            (∀ w, S28 w → S27 w) ∧
                                            S28 w40 ∧
                                            ∃ (s31 : SV) (w41 : World),
                                            Sem.run Pr (Instr.buildSlice 22 2 #[(0, (.slice s30.a s30.len s30.cap)), (1, (.slice s29.a s29.len s29.cap))]) w40 = .ok (.slice s31.a s31.len s31.cap) w41 ∧
                                            ∃ (S29 : World → Prop),
                                            (∀ w, S29 w → S28 w) ∧
                                            S29 w41 ∧
                                            Calls Pr 66 #[(.slice s31.a s31.len s31.cap)] w41 fun e16 w42 =>
                                              ∃ (s32 : SV),
                                              e16 = .returned (.slice s32.a s32.len s32.cap) ∧
                                              ∃ (S30 : World → Prop),
                                              (∀ w, S30 w → S29 w) ∧
                                              S30 w42 ∧
                                              ∃ (str6 : ByteArray),
                                              AtS Pr S30 (convert 26 9 (.slice s32.a s32.len s32.cap)) (.string str6) ∧
                                              brc ((ByteArray.toList str1 == ByteArray.toList str6))
                                                (Calls Pr 24 #[(.pointer p2)] w42 fun e17 w43 =>
                                                    ∃ (n11 : Int),
                                                    e17 = .returned (.int .i64 n11) ∧
                                                    ∃ (S31 : World → Prop),
                                                    (∀ w, S31 w → S30 w) ∧
                                                    S31 w43 ∧
                                                    R (.bool (n11 == (2 : Int))) w43)
                                                (R (.bool false) w42)) ∧
                                            ∃ (s33 : SV) (w44 : World),
                                            Sem.run Pr (convert 26 26 (.slice s23.a s23.len s23.cap)) w32 = .ok (.slice s33.a s33.len s33.cap) w44 ∧
                                            ∃ (S32 : World → Prop),
                                            (∀ w, S32 w → S20 w) ∧
                                            S32 w44 ∧
                                            ∃ (s34 : SV) (w45 : World),
                                            Sem.run Pr (Instr.buildSlice 26 1 #[(0, (.int .u8 97))]) w44 = .ok (.slice s34.a s34.len s34.cap) w45 ∧
                                            ∃ (S33 : World → Prop),
                                            (∀ w, S33 w → S32 w) ∧
                                            S33 w45 ∧
                                            ∃ (s35 : SV) (w46 : World),
                                            Sem.run Pr (convert 26 26 (.slice s34.a s34.len s34.cap)) w45 = .ok (.slice s35.a s35.len s35.cap) w46 ∧
                                            ∃ (S34 : World → Prop),
                                            (∀ w, S34 w → S33 w) ∧
                                            S34 w46 ∧
                                            ∃ (s36 : SV) (w47 : World),
                                            Sem.run Pr (Instr.buildSlice 22 2 #[(0, (.slice s35.a s35.len s35.cap)), (1, (.slice s33.a s33.len s33.cap))]) w46 = .ok (.slice s36.a s36.len s36.cap) w47 ∧
                                            ∃ (S35 : World → Prop),
                                            (∀ w, S35 w → S34 w) ∧
                                            S35 w47 ∧
                                            Calls Pr 66 #[(.slice s36.a s36.len s36.cap)] w47 fun e18 w48 =>
                                              ∃ (s37 : SV),
                                              e18 = .returned (.slice s37.a s37.len s37.cap) ∧
                                              ∃ (S36 : World → Prop),
                                              (∀ w, S36 w → S35 w) ∧
                                              S36 w48 ∧
                                              ∃ (str7 : ByteArray),
                                              AtS Pr S36 (convert 26 9 (.slice s37.a s37.len s37.cap)) (.string str7) ∧
                                              brc ((ByteArray.toList str1 == ByteArray.toList str7))
                                                (Calls Pr 24 #[(.pointer p2)] w48 fun e19 w49 =>
                                                    ∃ (n12 : Int),
                                                    e19 = .returned (.int .i64 n12) ∧
                                                    ∃ (S37 : World → Prop),
                                                    (∀ w, S37 w → S36 w) ∧
                                                    S37 w49 ∧
                                                    R (.bool (n12 == (2 : Int))) w49)
                                                (R (.bool false) w48))
                                          ((R (.bool false) (World.drew w13) ∧
                                            R (.bool false) (World.drew w13) ∧
                                            R (.bool false) (World.drew w13)) ∧
                                            (R (.bool false) (World.drew w13) ∧
                                            R (.bool false) (World.drew w13)) ∧
                                            R (.bool false) (World.drew w13))))))))

theorem call20 {w0 : World} {R : Ending → World → Prop} (h : ir20 w0 fun v w => R (.returned v) w) : Calls Pr 20 #[] w0 R := by
  refine calls_of_vc (ann := []) (E := []) (args := []) follows Try.func20 rfl (by kernel_rfl) ?_
  apply by_eq h
  kernel_rfl

/-- (*creel/run.Reader).Next -/
def ir21 (x0 : Option Addr) (w0 : World) (R : Value → World → Prop) : Prop :=
  ∃ (a1 : Addr) (w1 : World),
  Sem.run Pr (Instr.alloc 34 true (.tuple #[])) w0 = .ok (.pointer (some a1)) w1 ∧
  brc (Option.isNone x0)
    (∃ (w2 : World),
      Sem.run Pr (Instr.storeAt 34 (.pointer (some a1)) (.agg #[(.slice none 0 0), (.bool false)])) w1 = .ok () w2 ∧
      ∃ (s1 : SV) (b1 : Bool),
      At Pr w2 (loadVar 34 a1) (.agg #[(.slice s1.a s1.len s1.cap), (.bool b1)]) ∧
      R (.tuple #[(.agg #[(.slice s1.a s1.len s1.cap), (.bool b1)]), (.int .i64 2)]) w2)
    (optK x0 fun a2 =>
        ∃ (b2 : Bool),
        At Pr w1 (loadVar 4 (Addr.add a2 3)) (.bool b2) ∧
        brc (b2)
          (∃ (w3 : World),
            Sem.run Pr (Instr.storeAt 34 (.pointer (some a1)) (.agg #[(.slice none 0 0), (.bool false)])) w1 = .ok () w3 ∧
            ∃ (s2 : SV) (b3 : Bool),
            At Pr w3 (loadVar 34 a1) (.agg #[(.slice s2.a s2.len s2.cap), (.bool b3)]) ∧
            R (.tuple #[(.agg #[(.slice s2.a s2.len s2.cap), (.bool b3)]), (.int .i64 6)]) w3)
          (optK x0 fun a3 =>
              ∃ (s3 : SV),
              At Pr w1 (loadVar 26 (Addr.add a3 0)) (.slice s3.a s3.len s3.cap) ∧
              brc (((s3.len : Nat) : Int) == (0 : Int))
                (∃ (w4 : World),
                  Sem.run Pr (Instr.storeAt 34 (.pointer (some a1)) (.agg #[(.slice none 0 0), (.bool false)])) w1 = .ok () w4 ∧
                  ∃ (s4 : SV) (b4 : Bool),
                  At Pr w4 (loadVar 34 a1) (.agg #[(.slice s4.a s4.len s4.cap), (.bool b4)]) ∧
                  R (.tuple #[(.agg #[(.slice s4.a s4.len s4.cap), (.bool b4)]), (.int .i64 0)]) w4)
                (optK x0 fun a4 =>
                    ∃ (s5 : SV),
                    At Pr w1 (loadVar 26 (Addr.add a4 0)) (.slice s5.a s5.len s5.cap) ∧
                    Calls Pr 82 #[(.slice s5.a s5.len s5.cap)] w1 fun e1 w5 =>
                      ∃ (s6 : SV) (s7 : SV) (n1 : Int),
                      e1 = .returned (.tuple #[(.slice s6.a s6.len s6.cap), (.slice s7.a s7.len s7.cap), (.int .i64 n1)]) ∧
                      brc (n1 != (0 : Int))
                        (optK x0 fun a5 =>
                            ∃ (w6 : World),
                            Sem.run Pr (Instr.storeAt 4 (.pointer (some (Addr.add a5 3))) (.bool true)) w5 = .ok () w6 ∧
                            ∃ (w7 : World),
                            Sem.run Pr (Instr.storeAt 34 (.pointer (some a1)) (.agg #[(.slice none 0 0), (.bool false)])) w6 = .ok () w7 ∧
                            ∃ (s8 : SV) (b5 : Bool),
                            At Pr w7 (loadVar 34 a1) (.agg #[(.slice s8.a s8.len s8.cap), (.bool b5)]) ∧
                            R (.tuple #[(.agg #[(.slice s8.a s8.len s8.cap), (.bool b5)]), (.int .i64 6)]) w7)
                        (brc (decide (((s6.len : Nat) : Int) > (64 : Int)))
                            (optK x0 fun a6 =>
                                ∃ (w8 : World),
                                Sem.run Pr (Instr.storeAt 4 (.pointer (some (Addr.add a6 3))) (.bool true)) w5 = .ok () w8 ∧
                                ∃ (w9 : World),
                                Sem.run Pr (Instr.storeAt 34 (.pointer (some a1)) (.agg #[(.slice none 0 0), (.bool false)])) w8 = .ok () w9 ∧
                                ∃ (s9 : SV) (b6 : Bool),
                                At Pr w9 (loadVar 34 a1) (.agg #[(.slice s9.a s9.len s9.cap), (.bool b6)]) ∧
                                R (.tuple #[(.agg #[(.slice s9.a s9.len s9.cap), (.bool b6)]), (.int .i64 6)]) w9)
                            (optK x0 fun a7 =>
                                Calls Pr 83 #[(.pointer (some (Addr.add a7 1))), (.slice s6.a s6.len s6.cap)] w5 fun e2 w10 =>
                                  ∃ (b7 : Bool),
                                  e2 = .returned (.bool b7) ∧
                                  brc (!b7)
                                    (optK x0 fun a8 =>
                                        ∃ (w11 : World),
                                        Sem.run Pr (Instr.storeAt 4 (.pointer (some (Addr.add a8 3))) (.bool true)) w10 = .ok () w11 ∧
                                        ∃ (w12 : World),
                                        Sem.run Pr (Instr.storeAt 34 (.pointer (some a1)) (.agg #[(.slice none 0 0), (.bool false)])) w11 = .ok () w12 ∧
                                        ∃ (s10 : SV) (b8 : Bool),
                                        At Pr w12 (loadVar 34 a1) (.agg #[(.slice s10.a s10.len s10.cap), (.bool b8)]) ∧
                                        R (.tuple #[(.agg #[(.slice s10.a s10.len s10.cap), (.bool b8)]), (.int .i64 6)]) w12)
                                    (optK x0 fun a9 =>
                                        ∃ (w13 : World),
                                        Sem.run Pr (Instr.storeAt 26 (.pointer (some (Addr.add a9 0))) (.slice s7.a s7.len s7.cap)) w10 = .ok () w13 ∧
                                        ∃ (w14 : World),
                                        Sem.run Pr (Instr.storeAt 34 (.pointer (some a1)) (.agg #[(.slice s6.a s6.len s6.cap), (.bool true)])) w13 = .ok () w14 ∧
                                        ∃ (s11 : SV) (b9 : Bool),
                                        At Pr w14 (loadVar 34 a1) (.agg #[(.slice s11.a s11.len s11.cap), (.bool b9)]) ∧
                                        R (.tuple #[(.agg #[(.slice s11.a s11.len s11.cap), (.bool b9)]), (.int .i64 0)]) w14))))))

theorem call21 {x0 : Option Addr} {w0 : World} {R : Ending → World → Prop} (h : ir21 x0 w0 fun v w => R (.returned v) w) : Calls Pr 21 #[.pointer x0] w0 R := by
  refine calls_of_vc (ann := []) (E := []) (args := [.pointer x0]) follows Try.func21 rfl (by kernel_rfl) ?_
  apply by_eq h
  kernel_rfl

/-- (*creel/run.Writer).Add -/
def ir22 (x0 : Option Addr) (x1 : SV) (w0 : World) (R : Value → World → Prop) : Prop :=
  brc (Option.isNone x0)
    (R (.int .i64 2) w0)
    (brc (decide (((x1.len : Nat) : Int) > (64 : Int)))
        (R (.int .i64 3) w0)
        (optK x0 fun a1 =>
            ∃ (s1 : SV) (b1 : Bool),
            At Pr w0 (loadVar 128 (Addr.add a1 1)) (.agg #[(.slice s1.a s1.len s1.cap), (.bool b1)]) ∧
            ∃ (a2 : Addr) (w1 : World),
            Sem.run Pr (Instr.alloc 128 true (.tuple #[])) w0 = .ok (.pointer (some a2)) w1 ∧
            ∃ (w2 : World),
            Sem.run Pr (Instr.storeAt 128 (.pointer (some a2)) (.agg #[(.slice s1.a s1.len s1.cap), (.bool b1)])) w1 = .ok () w2 ∧
            optK x0 fun a3 =>
              Calls Pr 83 #[(.pointer (some (Addr.add a3 1))), (.slice x1.a x1.len x1.cap)] w2 fun e1 w3 =>
                ∃ (b2 : Bool),
                e1 = .returned (.bool b2) ∧
                brc (!b2)
                  (R (.int .i64 130) w3)
                  (Calls Pr 84 #[(.slice none 0 0), (.slice x1.a x1.len x1.cap)] w3 fun e2 w4 =>
                      ∃ (s2 : SV) (n1 : Int),
                      e2 = .returned (.tuple #[(.slice s2.a s2.len s2.cap), (.int .i64 n1)]) ∧
                      brc (n1 == (0 : Int))
                        (optK x0 fun a4 =>
                            ∃ (p1 : Option Addr),
                            At Pr w4 (loadVar 41 (Addr.add a4 0)) (.pointer p1) ∧
                            Calls Pr 33 #[(.pointer p1), (.string (⟨#[116, 109, 112]⟩ : ByteArray)), (.slice s2.a s2.len s2.cap)] w4 fun e3 w5 =>
                              ∃ (n2 : Int),
                              e3 = .returned (.int .i64 n2) ∧
                              brc (n2 != (0 : Int))
                                (∃ (s3 : SV) (b3 : Bool),
                                  At Pr w5 (loadVar 128 a2) (.agg #[(.slice s3.a s3.len s3.cap), (.bool b3)]) ∧
                                  optK x0 fun a5 =>
                                    ∃ (w6 : World),
                                    Sem.run Pr (Instr.storeAt 128 (.pointer (some (Addr.add a5 1))) (.agg #[(.slice s3.a s3.len s3.cap), (.bool b3)])) w5 = .ok () w6 ∧
                                    R (.int .i64 n2) w6)
                                (optK x0 fun a6 =>
                                    ∃ (n3 : Int),
                                    At Pr w5 (loadVar 3 (Addr.add a6 3)) (.int .i64 n3) ∧
                                    optK x0 fun a7 =>
                                      ∃ (w7 : World),
                                      Sem.run Pr (Instr.storeAt 3 (.pointer (some (Addr.add a7 3))) (.int .i64 (IntKind.wrap .i64 (n3 + 1)))) w5 = .ok () w7 ∧
                                      R (.int .i64 0) w7))
                        (brc (n1 != (0 : Int))
                            (∃ (s4 : SV) (b4 : Bool),
                              At Pr w4 (loadVar 128 a2) (.agg #[(.slice s4.a s4.len s4.cap), (.bool b4)]) ∧
                              optK x0 fun a8 =>
                                ∃ (w8 : World),
                                Sem.run Pr (Instr.storeAt 128 (.pointer (some (Addr.add a8 1))) (.agg #[(.slice s4.a s4.len s4.cap), (.bool b4)])) w4 = .ok () w8 ∧
                                R (.int .i64 n1) w8)
                            (optK x0 fun a9 =>
                                ∃ (n4 : Int),
                                At Pr w4 (loadVar 3 (Addr.add a9 3)) (.int .i64 n4) ∧
                                optK x0 fun a10 =>
                                  ∃ (w9 : World),
                                  Sem.run Pr (Instr.storeAt 3 (.pointer (some (Addr.add a10 3))) (.int .i64 (IntKind.wrap .i64 (n4 + 1)))) w4 = .ok () w9 ∧
                                  R (.int .i64 0) w9)))))

theorem call22 {x0 : Option Addr} {x1 : SV} {w0 : World} {R : Ending → World → Prop} (h : ir22 x0 x1 w0 fun v w => R (.returned v) w) : Calls Pr 22 #[.pointer x0, .slice x1.a x1.len x1.cap] w0 R := by
  refine calls_of_vc (ann := []) (E := []) (args := [.pointer x0, .slice x1.a x1.len x1.cap]) follows Try.func22 rfl (by kernel_rfl) ?_
  apply by_eq h
  kernel_rfl

/-- (*creel/run.Writer).End -/
def ir23 (x0 : Option Addr) (x1 : ByteArray) (w0 : World) (R : Value → World → Prop) : Prop :=
  brc (Option.isNone x0)
    (R (.int .i64 2) w0)
    (brc ((ByteArray.toList x1 == ByteArray.toList (⟨#[116, 109, 112]⟩ : ByteArray)))
        (R (.int .i64 1) w0)
        (brc ((ByteArray.toList x1 == ByteArray.toList (⟨#[]⟩ : ByteArray)))
            (R (.int .i64 1) w0)
            (brc (decide (((ByteArray.size x1 : Nat) : Int) > (32 : Int)))
                (R (.int .i64 1) w0)
                (optK x0 fun a1 =>
                    ∃ (p1 : Option Addr),
                    At Pr w0 (loadVar 41 (Addr.add a1 0)) (.pointer p1) ∧
                    Calls Pr 57 #[(.pointer p1), (.string (⟨#[116, 109, 112]⟩ : ByteArray))] w0 fun e1 w1 =>
                      ∃ (n1 : Int),
                      e1 = .returned (.int .i64 n1) ∧
                      brc (n1 != (0 : Int))
                        (R (.int .i64 n1) w1)
                        (optK x0 fun a2 =>
                            ∃ (p2 : Option Addr),
                            At Pr w1 (loadVar 41 (Addr.add a2 0)) (.pointer p2) ∧
                            Calls Pr 85 #[(.pointer p2), (.string (⟨#[116, 109, 112]⟩ : ByteArray)), (.string x1)] w1 fun e2 w2 =>
                              ∃ (n2 : Int),
                              e2 = .returned (.int .i64 n2) ∧
                              brc (n2 != (0 : Int))
                                (R (.int .i64 n2) w2)
                                (optK x0 fun a3 =>
                                    ∃ (p3 : Option Addr),
                                    At Pr w2 (loadVar 41 (Addr.add a3 0)) (.pointer p3) ∧
                                    Calls Pr 55 #[(.pointer p3)] w2 fun e3 w3 =>
                                      ∃ (n3 : Int),
                                      e3 = .returned (.int .i64 n3) ∧
                                      R (.int .i64 n3) w3))))))

theorem call23 {x0 : Option Addr} {x1 : ByteArray} {w0 : World} {R : Ending → World → Prop} (h : ir23 x0 x1 w0 fun v w => R (.returned v) w) : Calls Pr 23 #[.pointer x0, .string x1] w0 R := by
  refine calls_of_vc (ann := []) (E := []) (args := [.pointer x0, .string x1]) follows Try.func23 rfl (by kernel_rfl) ?_
  apply by_eq h
  kernel_rfl

/-- (*creel/run.Writer).Many -/
def ir24 (x0 : Option Addr) (w0 : World) (R : Value → World → Prop) : Prop :=
  brc (Option.isNone x0)
    (R (.int .i64 0) w0)
    (optK x0 fun a1 =>
        ∃ (n1 : Int),
        At Pr w0 (loadVar 3 (Addr.add a1 3)) (.int .i64 n1) ∧
        R (.int .i64 n1) w0)

theorem call24 {x0 : Option Addr} {w0 : World} {R : Ending → World → Prop} (h : ir24 x0 w0 fun v w => R (.returned v) w) : Calls Pr 24 #[.pointer x0] w0 R := by
  refine calls_of_vc (ann := []) (E := []) (args := [.pointer x0]) follows Try.func24 rfl (by kernel_rfl) ?_
  apply by_eq h
  kernel_rfl

/-- creel/disk.New -/
def ir25 (x0 : Int) (w0 : World) (R : Value → World → Prop) : Prop :=
  ∃ (m1 : Nat) (w1 : World),
  Sem.run Pr (Instr.makeMap 137 none) w0 = .ok (.map (some m1)) w1 ∧
  ∃ (m2 : Nat) (w2 : World),
  Sem.run Pr (Instr.makeMap 137 none) w1 = .ok (.map (some m2)) w2 ∧
  ∃ (a1 : Addr) (w3 : World),
  Sem.run Pr (Instr.box 140 (.agg #[(.map (some m1)), (.map (some m2)), (.slice none 0 0), (.int .i64 (if 0 > x0 then 0 else x0)), (.bool false), (.bool false), (.int .i64 0)])) w2 = .ok (.pointer (some a1)) w3 ∧
  R (.pointer (some a1)) w3

theorem call25 {x0 : Int} {w0 : World} {R : Ending → World → Prop} (h : ir25 x0 w0 fun v w => R (.returned v) w) : Calls Pr 25 #[.int .i64 x0] w0 R := by
  refine calls_of_vc (ann := []) (E := []) (args := [.int .i64 x0]) follows Try.func25 rfl (by kernel_rfl) ?_
  apply by_eq h
  kernel_rfl

/-- creel/run.Start -/
def ir27 (x0 : Option Addr) (w0 : World) (R : Value → World → Prop) : Prop :=
  Calls Pr 86 #[(.pointer x0), (.string (⟨#[116, 109, 112]⟩ : ByteArray))] w0 fun e1 w1 =>
    ∃ (n1 : Int),
    e1 = .returned (.int .i64 n1) ∧
    brc (n1 != (0 : Int))
      (brc (n1 != (2 : Int))
          (R (.tuple #[(.pointer none), (.int .i64 n1)]) w1)
          (Calls Pr 32 #[(.pointer x0), (.string (⟨#[116, 109, 112]⟩ : ByteArray))] w1 fun e2 w2 =>
              ∃ (n2 : Int),
              e2 = .returned (.int .i64 n2) ∧
              brc (n2 != (0 : Int))
                (R (.tuple #[(.pointer none), (.int .i64 n2)]) w2)
                (∃ (a1 : Addr) (w3 : World),
                  Sem.run Pr (Instr.box 134 (.agg #[(.pointer x0), (.slice none 0 0), (.bool false), (.int .i64 0)])) w2 = .ok (.pointer (some a1)) w3 ∧
                  R (.tuple #[(.pointer (some a1)), (.int .i64 0)]) w3)))
      (Calls Pr 32 #[(.pointer x0), (.string (⟨#[116, 109, 112]⟩ : ByteArray))] w1 fun e3 w4 =>
          ∃ (n3 : Int),
          e3 = .returned (.int .i64 n3) ∧
          brc (n3 != (0 : Int))
            (R (.tuple #[(.pointer none), (.int .i64 n3)]) w4)
            (∃ (a2 : Addr) (w5 : World),
              Sem.run Pr (Instr.box 134 (.agg #[(.pointer x0), (.slice none 0 0), (.bool false), (.int .i64 0)])) w4 = .ok (.pointer (some a2)) w5 ∧
              R (.tuple #[(.pointer (some a2)), (.int .i64 0)]) w5))

theorem call27 {x0 : Option Addr} {w0 : World} {R : Ending → World → Prop} (h : ir27 x0 w0 fun v w => R (.returned v) w) : Calls Pr 27 #[.pointer x0] w0 R := by
  refine calls_of_vc (ann := []) (E := []) (args := [.pointer x0]) follows Try.func27 rfl (by kernel_rfl) ?_
  apply by_eq h
  kernel_rfl

/-- (*creel/disk.Disk).Read -/
def ir28 (x0 : Option Addr) (x1 : ByteArray) (w0 : World) (R : Value → World → Prop) : Prop :=
  Calls Pr 87 #[(.pointer x0), (.string x1)] w0 fun e1 w1 =>
    ∃ (p1 : Option Addr) (n1 : Int),
    e1 = .returned (.tuple #[(.pointer p1), (.int .i64 n1)]) ∧
    brc (n1 != (0 : Int))
      (R (.tuple #[(.slice none 0 0), (.int .i64 n1)]) w1)
      (optK p1 fun a1 =>
          ∃ (s1 : SV),
          At Pr w1 (loadVar 26 (Addr.add a1 0)) (.slice s1.a s1.len s1.cap) ∧
          Calls Pr 88 #[(.slice s1.a s1.len s1.cap)] w1 fun e2 w2 =>
            ∃ (s2 : SV),
            e2 = .returned (.slice s2.a s2.len s2.cap) ∧
            R (.tuple #[(.slice s2.a s2.len s2.cap), (.int .i64 0)]) w2)

theorem call28 {x0 : Option Addr} {x1 : ByteArray} {w0 : World} {R : Ending → World → Prop} (h : ir28 x0 x1 w0 fun v w => R (.returned v) w) : Calls Pr 28 #[.pointer x0, .string x1] w0 R := by
  refine calls_of_vc (ann := []) (E := []) (args := [.pointer x0, .string x1]) follows Try.func28 rfl (by kernel_rfl) ?_
  apply by_eq h
  kernel_rfl

/-- (*creel/disk.Disk).Create -/
def ir32 (x0 : Option Addr) (x1 : ByteArray) (w0 : World) (R : Value → World → Prop) : Prop :=
  Calls Pr 91 #[(.pointer x0)] w0 fun e1 w1 =>
    ∃ (n1 : Int),
    e1 = .returned (.int .i64 n1) ∧
    brc (n1 != (0 : Int))
      (R (.int .i64 n1) w1)
      (Calls Pr 92 #[(.string x1)] w1 fun e2 w2 =>
          ∃ (b1 : Bool),
          e2 = .returned (.bool b1) ∧
          brc (!b1)
            (R (.int .i64 1) w2)
            (optK x0 fun a1 =>
                ∃ (m1 : Option Nat),
                At Pr w2 (loadVar 137 (Addr.add a1 0)) (.map m1) ∧
                ∃ (p1 : Option Addr),
                At Pr w2 (Instr.lookup 137 (.map m1) (.string x1) false) (.pointer p1) ∧
                brc (!(Option.isNone p1))
                  (R (.int .i64 4) w2)
                  (∃ (a2 : Addr) (w3 : World),
                    Sem.run Pr (Instr.box 146 (.agg #[(.slice none 0 0), (.int .i64 0)])) w2 = .ok (.pointer (some a2)) w3 ∧
                    Calls Pr 93 #[(.pointer x0), (.agg #[(.string ByteArray.empty), (.string x1), (.pointer (some a2))])] w3 fun e3 w4 =>
                      e3 = .returned (.tuple #[]) ∧
                      R (.int .i64 0) w4)))

theorem call32 {x0 : Option Addr} {x1 : ByteArray} {w0 : World} {R : Ending → World → Prop} (h : ir32 x0 x1 w0 fun v w => R (.returned v) w) : Calls Pr 32 #[.pointer x0, .string x1] w0 R := by
  refine calls_of_vc (ann := []) (E := []) (args := [.pointer x0, .string x1]) follows Try.func32 rfl (by kernel_rfl) ?_
  apply by_eq h
  kernel_rfl

/-- (*creel/disk.Disk).Append -/
def ir33 (x0 : Option Addr) (x1 : ByteArray) (x2 : SV) (w0 : World) (R : Value → World → Prop) : Prop :=
  Calls Pr 87 #[(.pointer x0), (.string x1)] w0 fun e1 w1 =>
    ∃ (p1 : Option Addr) (n1 : Int),
    e1 = .returned (.tuple #[(.pointer p1), (.int .i64 n1)]) ∧
    brc (n1 != (0 : Int))
      (R (.int .i64 n1) w1)
      (∃ (S1 : World → Prop),
        S1 (World.drew w1) ∧
        optK x0 fun a1 =>
          ∃ (n2 : Int),
          AtS Pr S1 (loadVar 3 (Addr.add a1 3)) (.int .i64 n2) ∧
          Calls Pr 40 #[(.pointer x0)] (World.drew w1) fun e2 w2 =>
            ∃ (n3 : Int),
            e2 = .returned (.int .i64 n3) ∧
            ∃ (S2 : World → Prop),
            (∀ w, S2 w → S1 w) ∧
            S2 w2 ∧
            brc (decide ((IntKind.wrap .i64 (n3 + ((x2.len : Nat) : Int))) > n2))
              (R (.int .i64 41) w2)
              (optK p1 fun a2 =>
                  ∃ (s1 : SV),
                  At Pr w2 (loadVar 26 (Addr.add a2 0)) (.slice s1.a s1.len s1.cap) ∧
                  ∃ (s2 : SV) (w3 : World),
                  Sem.run Pr (Instr.buildSlice 22 2 #[(0, (.slice s1.a s1.len s1.cap)), (1, (.slice x2.a x2.len x2.cap))]) w2 = .ok (.slice s2.a s2.len s2.cap) w3 ∧
                  Calls Pr 94 #[(.slice s2.a s2.len s2.cap)] w3 fun e3 w4 =>
                    ∃ (s3 : SV),
                    e3 = .returned (.slice s3.a s3.len s3.cap) ∧
                    optK p1 fun a3 =>
                      ∃ (w5 : World),
                      Sem.run Pr (Instr.storeAt 26 (.pointer (some (Addr.add a3 0))) (.slice s3.a s3.len s3.cap)) w4 = .ok () w5 ∧
                      R (.int .i64 0) w5))

theorem call33 {x0 : Option Addr} {x1 : ByteArray} {x2 : SV} {w0 : World} {R : Ending → World → Prop} (h : ir33 x0 x1 x2 w0 fun v w => R (.returned v) w) : Calls Pr 33 #[.pointer x0, .string x1, .slice x2.a x2.len x2.cap] w0 R := by
  refine calls_of_vc (ann := []) (E := []) (args := [.pointer x0, .string x1, .slice x2.a x2.len x2.cap]) follows Try.func33 rfl (by kernel_rfl) ?_
  apply by_eq h
  kernel_rfl

/-- (*creel/disk.Disk).Used -/
def ir40 (x0 : Option Addr) (w0 : World) (R : Value → World → Prop) : Prop :=
  brc (Option.isNone x0)
    (R (.int .i64 0) w0)
    (∃ (m1 : Nat) (w1 : World),
      Sem.run Pr (Instr.makeMap 160 none) w0 = .ok (.map (some m1)) w1 ∧
      optK x0 fun a1 =>
        ∃ (m2 : Option Nat),
        At Pr w1 (loadVar 137 (Addr.add a1 1)) (.map m2) ∧
        ∃ (a2 : Addr) (w2 : World),
        Sem.run Pr (Instr.range 137 (.map m2)) w1 = .ok (.pointer (some a2)) w2 ∧
        LoopT (σ := Unit) (fun σ1 w3 K1 =>
          ∀ _ : Env,
          NextM Pr (.pointer (some a2)) 0 w3
            (fun w4 =>
              optK x0 fun a3 =>
                ∃ (s1 : SV),
                At Pr w4 (loadVar 138 (Addr.add a3 2)) (.slice s1.a s1.len s1.cap) ∧
                LoopT (σ := Int × Unit) (fun σ2 w6 K2 =>
                  ∀ _ : Env,
                  brc (decide (σ2.1 < ((s1.len : Nat) : Int)))
                    (((0 : Int) ≤ σ2.1 ∧ σ2.1 < ((s1.len : Nat) : Int)) ∧
                      optK s1.a fun a4 =>
                        ∃ (str1 : ByteArray) (str2 : ByteArray) (p1 : Option Addr),
                        At Pr w6 (loadVar 153 (Addr.add a4 (Int.toNat σ2.1 * 3))) (.agg #[(.string str1), (.string str2), (.pointer p1)]) ∧
                        ∃ (a5 : Addr) (w7 : World),
                        Sem.run Pr (Instr.alloc 153 true (.tuple #[])) w6 = .ok (.pointer (some a5)) w7 ∧
                        ∃ (w8 : World),
                        Sem.run Pr (Instr.storeAt 153 (.pointer (some a5)) (.agg #[(.string str1), (.string str2), (.pointer p1)])) w7 = .ok () w8 ∧
                        ∃ (str3 : ByteArray),
                        At Pr w8 (loadVar 9 (Addr.add a5 1)) (.string str3) ∧
                        brc (!(ByteArray.toList str3 == ByteArray.toList (⟨#[]⟩ : ByteArray)))
                          (∃ (p2 : Option Addr),
                            At Pr w8 (loadVar 141 (Addr.add a5 2)) (.pointer p2) ∧
                            ∃ (w9 : World),
                            Sem.run Pr (Instr.mapUpdate 160 (.map (some m1)) (.pointer p2) (.bool true)) w8 = .ok () w9 ∧
                            K2 (IntKind.wrap .i64 (σ2.1 + 1), ()) w9)
                          (K2 (IntKind.wrap .i64 (σ2.1 + 1), ()) w8))
                    (∃ (a6 : Addr) (w10 : World),
                      Sem.run Pr (Instr.range 160 (.map (some m1))) w6 = .ok (.pointer (some a6)) w10 ∧
                      LoopT (σ := Int × Unit) (fun σ3 w11 K3 =>
                        ∀ _ : Env,
                        NextM Pr (.pointer (some a6)) 0 w11
                          (fun w12 =>
                            R (.int .i64 σ3.1) w12)
                          (fun k2 v2 w13 =>
                            ∃ (p3 : Option Addr),
                            ∃ (b1 : Bool),
                            At Pr w13 (Instr.entry (.pointer (some a6))) (.tuple #[(.pointer p3), (.bool b1)]) ∧
                            optK p3 fun a7 =>
                              ∃ (s2 : SV),
                              At Pr w13 (loadVar 26 (Addr.add a7 0)) (.slice s2.a s2.len s2.cap) ∧
                              K3 (IntKind.wrap .i64 (σ3.1 + ((s2.len : Nat) : Int)), ()) w13)) (0, ()) w10)) (0, ()) w4)
            (fun k1 v1 w5 =>
              ∃ (str4 : ByteArray),
              ∃ (p4 : Option Addr),
              At Pr w5 (Instr.entry (.pointer (some a2))) (.tuple #[(.string str4), (.pointer p4)]) ∧
              ∃ (w14 : World),
              Sem.run Pr (Instr.mapUpdate 160 (.map (some m1)) (.pointer p4) (.bool true)) w5 = .ok () w14 ∧
              K1 (()) w14)) (()) w2)

theorem call40 {x0 : Option Addr} {w0 : World} {R : Ending → World → Prop} (h : ir40 x0 w0 fun v w => R (.returned v) w) : Calls Pr 40 #[.pointer x0] w0 R := by
  refine calls_of_vc (ann := [(5, []), (9, [(29, .int .i64)]), (16, [(8, .int .i64)])]) (E := [(17, 137), (41, 160)]) (args := [.pointer x0]) follows Try.func40 rfl (by kernel_rfl) ?_
  apply by_eq h
  kernel_rfl

/-- (*creel/disk.Disk).SyncNames -/
def ir55 (x0 : Option Addr) (w0 : World) (R : Value → World → Prop) : Prop :=
  Calls Pr 91 #[(.pointer x0)] w0 fun e1 w1 =>
    ∃ (n1 : Int),
    e1 = .returned (.int .i64 n1) ∧
    brc (n1 != (0 : Int))
      (R (.int .i64 n1) w1)
      (optK x0 fun a1 =>
          ∃ (m1 : Option Nat),
          At Pr w1 (loadVar 137 (Addr.add a1 0)) (.map m1) ∧
          Calls Pr 108 #[(.map m1)] w1 fun e2 w2 =>
            ∃ (m2 : Option Nat),
            e2 = .returned (.map m2) ∧
            optK x0 fun a2 =>
              ∃ (w3 : World),
              Sem.run Pr (Instr.storeAt 137 (.pointer (some (Addr.add a2 1))) (.map m2)) w2 = .ok () w3 ∧
              optK x0 fun a3 =>
                ∃ (w4 : World),
                Sem.run Pr (Instr.storeAt 138 (.pointer (some (Addr.add a3 2))) (.slice none 0 0)) w3 = .ok () w4 ∧
                R (.int .i64 0) w4)

theorem call55 {x0 : Option Addr} {w0 : World} {R : Ending → World → Prop} (h : ir55 x0 w0 fun v w => R (.returned v) w) : Calls Pr 55 #[.pointer x0] w0 R := by
  refine calls_of_vc (ann := []) (E := []) (args := [.pointer x0]) follows Try.func55 rfl (by kernel_rfl) ?_
  apply by_eq h
  kernel_rfl

/-- (*creel/disk.Disk).Sync -/
def ir57 (x0 : Option Addr) (x1 : ByteArray) (w0 : World) (R : Value → World → Prop) : Prop :=
  Calls Pr 87 #[(.pointer x0), (.string x1)] w0 fun e1 w1 =>
    ∃ (p1 : Option Addr) (n1 : Int),
    e1 = .returned (.tuple #[(.pointer p1), (.int .i64 n1)]) ∧
    brc (n1 != (0 : Int))
      (R (.int .i64 n1) w1)
      (optK p1 fun a1 =>
          ∃ (s1 : SV),
          At Pr w1 (loadVar 26 (Addr.add a1 0)) (.slice s1.a s1.len s1.cap) ∧
          optK p1 fun a2 =>
            ∃ (w2 : World),
            Sem.run Pr (Instr.storeAt 3 (.pointer (some (Addr.add a2 1))) (.int .i64 ((s1.len : Nat) : Int))) w1 = .ok () w2 ∧
            R (.int .i64 0) w2)

theorem call57 {x0 : Option Addr} {x1 : ByteArray} {w0 : World} {R : Ending → World → Prop} (h : ir57 x0 x1 w0 fun v w => R (.returned v) w) : Calls Pr 57 #[.pointer x0, .string x1] w0 R := by
  refine calls_of_vc (ann := []) (E := []) (args := [.pointer x0, .string x1]) follows Try.func57 rfl (by kernel_rfl) ?_
  apply by_eq h
  kernel_rfl

/-- creel/creelref13.Bytes -/
def ir66 (x0 : SV) (w0 : World) (R : Value → World → Prop) : Prop :=
  LoopT (σ := Int × SV × Unit) (fun σ1 w1 K1 =>
    ∀ _ : Env,
    brc (decide (σ1.1 < ((x0.len : Nat) : Int)))
      (((0 : Int) ≤ σ1.1 ∧ σ1.1 < ((x0.len : Nat) : Int)) ∧
        optK x0.a fun a1 =>
          ∃ (s1 : SV),
          At Pr w1 (loadVar 26 (Addr.add a1 (Int.toNat σ1.1 * 1))) (.slice s1.a s1.len s1.cap) ∧
          Calls Pr 70 #[(.slice σ1.2.1.a σ1.2.1.len σ1.2.1.cap), (.slice s1.a s1.len s1.cap)] w1 fun e1 w2 =>
            ∃ (s2 : SV) (n1 : Int),
            e1 = .returned (.tuple #[(.slice s2.a s2.len s2.cap), (.int .i64 n1)]) ∧
            K1 (IntKind.wrap .i64 (σ1.1 + 1), s2, ()) w2)
      (R (.slice σ1.2.1.a σ1.2.1.len σ1.2.1.cap) w1)) (0, SV.mk none 0 0, ()) w0

theorem call66 {x0 : SV} {w0 : World} {R : Ending → World → Prop} (h : ir66 x0 w0 fun v w => R (.returned v) w) : Calls Pr 66 #[.slice x0.a x0.len x0.cap] w0 R := by
  refine calls_of_vc (ann := [(3, [(4, .int .i64), (3, .slice)])]) (E := []) (args := [.slice x0.a x0.len x0.cap]) follows Try.func66 rfl (by kernel_rfl) ?_
  apply by_eq h
  kernel_rfl

/-- creel/creelref03.Put -/
def ir70 (x0 : SV) (x1 : SV) (w0 : World) (R : Value → World → Prop) : Prop :=
  brc (decide (((x1.len : Nat) : Int) > (4096 : Int)))
    (R (.tuple #[(.slice none 0 0), (.int .i64 3)]) w0)
    (Calls Pr 129 #[(.slice none 0 0), (.int .u64 (IntKind.wrap .u64 ((x1.len : Nat) : Int))), (.int .i64 4)] w0 fun e1 w1 =>
        ∃ (s1 : SV),
        e1 = .returned (.slice s1.a s1.len s1.cap) ∧
        ∃ (s2 : SV) (w2 : World),
        Sem.run Pr (Builtin.append_ #[26, 26] 26 #[(.slice s1.a s1.len s1.cap), (.slice x1.a x1.len x1.cap)]) w1 = .ok (.slice s2.a s2.len s2.cap) w2 ∧
        Calls Pr 128 #[(.slice s2.a s2.len s2.cap)] w2 fun e2 w3 =>
          ∃ (s3 : SV),
          e2 = .returned (.slice s3.a s3.len s3.cap) ∧
          ∃ (s4 : SV) (w4 : World),
          Sem.run Pr (Instr.buildSlice 26 0 #[]) w3 = .ok (.slice s4.a s4.len s4.cap) w4 ∧
          ∃ (s5 : SV) (w5 : World),
          Sem.run Pr (Builtin.append_ #[26, 26] 26 #[(.slice s4.a s4.len s4.cap), (.slice x0.a x0.len x0.cap)]) w4 = .ok (.slice s5.a s5.len s5.cap) w5 ∧
          ∃ (s6 : SV) (w6 : World),
          Sem.run Pr (Builtin.append_ #[26, 26] 26 #[(.slice s5.a s5.len s5.cap), (.slice s3.a s3.len s3.cap)]) w5 = .ok (.slice s6.a s6.len s6.cap) w6 ∧
          R (.tuple #[(.slice s6.a s6.len s6.cap), (.int .i64 0)]) w6)

theorem call70 {x0 : SV} {x1 : SV} {w0 : World} {R : Ending → World → Prop} (h : ir70 x0 x1 w0 fun v w => R (.returned v) w) : Calls Pr 70 #[.slice x0.a x0.len x0.cap, .slice x1.a x1.len x1.cap] w0 R := by
  refine calls_of_vc (ann := []) (E := []) (args := [.slice x0.a x0.len x0.cap, .slice x1.a x1.len x1.cap]) follows Try.func70 rfl (by kernel_rfl) ?_
  apply by_eq h
  kernel_rfl

/-- bytes.Equal -/
def ir81 (x0 : SV) (x1 : SV) (w0 : World) (R : Value → World → Prop) : Prop :=
  ∃ (str1 : ByteArray),
  At Pr w0 (convert 26 9 (.slice x0.a x0.len x0.cap)) (.string str1) ∧
  ∃ (str2 : ByteArray),
  At Pr w0 (convert 26 9 (.slice x1.a x1.len x1.cap)) (.string str2) ∧
  R (.bool (ByteArray.toList str1 == ByteArray.toList str2)) w0

theorem call81 {x0 : SV} {x1 : SV} {w0 : World} {R : Ending → World → Prop} (h : ir81 x0 x1 w0 fun v w => R (.returned v) w) : Calls Pr 81 #[.slice x0.a x0.len x0.cap, .slice x1.a x1.len x1.cap] w0 R := by
  refine calls_of_vc (ann := []) (E := []) (args := [.slice x0.a x0.len x0.cap, .slice x1.a x1.len x1.cap]) follows Try.func81 rfl (by kernel_rfl) ?_
  apply by_eq h
  kernel_rfl

/-- (*creel/run.order).rises -/
def ir83 (x0 : Option Addr) (x1 : SV) (w0 : World) (R : Value → World → Prop) : Prop :=
  optK x0 fun a1 =>
    ∃ (b1 : Bool),
    At Pr w0 (loadVar 4 (Addr.add a1 1)) (.bool b1) ∧
    brc (b1)
      (optK x0 fun a2 =>
          ∃ (s1 : SV),
          At Pr w0 (loadVar 26 (Addr.add a2 0)) (.slice s1.a s1.len s1.cap) ∧
          Calls Pr 136 #[(.slice s1.a s1.len s1.cap), (.slice x1.a x1.len x1.cap)] w0 fun e1 w1 =>
            ∃ (n1 : Int),
            e1 = .returned (.int .i64 n1) ∧
            brc (decide (n1 ≥ (0 : Int)))
              (R (.bool false) w1)
              (Calls Pr 88 #[(.slice x1.a x1.len x1.cap)] w1 fun e2 w2 =>
                  ∃ (s2 : SV),
                  e2 = .returned (.slice s2.a s2.len s2.cap) ∧
                  optK x0 fun a3 =>
                    ∃ (w3 : World),
                    Sem.run Pr (Instr.storeAt 26 (.pointer (some (Addr.add a3 0))) (.slice s2.a s2.len s2.cap)) w2 = .ok () w3 ∧
                    optK x0 fun a4 =>
                      ∃ (w4 : World),
                      Sem.run Pr (Instr.storeAt 4 (.pointer (some (Addr.add a4 1))) (.bool true)) w3 = .ok () w4 ∧
                      R (.bool true) w4))
      (Calls Pr 88 #[(.slice x1.a x1.len x1.cap)] w0 fun e3 w5 =>
          ∃ (s3 : SV),
          e3 = .returned (.slice s3.a s3.len s3.cap) ∧
          optK x0 fun a5 =>
            ∃ (w6 : World),
            Sem.run Pr (Instr.storeAt 26 (.pointer (some (Addr.add a5 0))) (.slice s3.a s3.len s3.cap)) w5 = .ok () w6 ∧
            optK x0 fun a6 =>
              ∃ (w7 : World),
              Sem.run Pr (Instr.storeAt 4 (.pointer (some (Addr.add a6 1))) (.bool true)) w6 = .ok () w7 ∧
              R (.bool true) w7)

theorem call83 {x0 : Option Addr} {x1 : SV} {w0 : World} {R : Ending → World → Prop} (h : ir83 x0 x1 w0 fun v w => R (.returned v) w) : Calls Pr 83 #[.pointer x0, .slice x1.a x1.len x1.cap] w0 R := by
  refine calls_of_vc (ann := []) (E := []) (args := [.pointer x0, .slice x1.a x1.len x1.cap]) follows Try.func83 rfl (by kernel_rfl) ?_
  apply by_eq h
  kernel_rfl

/-- creel/frame.Put -/
def ir84 (x0 : SV) (x1 : SV) (w0 : World) (R : Value → World → Prop) : Prop :=
  brc (decide (((x1.len : Nat) : Int) > (4096 : Int)))
    (R (.tuple #[(.slice none 0 0), (.int .i64 3)]) w0)
    (Calls Pr 138 #[(.slice none 0 0), (.int .u64 (IntKind.wrap .u64 ((x1.len : Nat) : Int))), (.int .i64 4)] w0 fun e1 w1 =>
        ∃ (s1 : SV),
        e1 = .returned (.slice s1.a s1.len s1.cap) ∧
        ∃ (s2 : SV) (w2 : World),
        Sem.run Pr (Instr.buildSlice 22 2 #[(0, (.slice s1.a s1.len s1.cap)), (1, (.slice x1.a x1.len x1.cap))]) w1 = .ok (.slice s2.a s2.len s2.cap) w2 ∧
        Calls Pr 94 #[(.slice s2.a s2.len s2.cap)] w2 fun e2 w3 =>
          ∃ (s3 : SV),
          e2 = .returned (.slice s3.a s3.len s3.cap) ∧
          Calls Pr 137 #[(.slice s3.a s3.len s3.cap)] w3 fun e3 w4 =>
            ∃ (s4 : SV),
            e3 = .returned (.slice s4.a s4.len s4.cap) ∧
            ∃ (s5 : SV) (w5 : World),
            Sem.run Pr (Instr.buildSlice 22 2 #[(0, (.slice x0.a x0.len x0.cap)), (1, (.slice s4.a s4.len s4.cap))]) w4 = .ok (.slice s5.a s5.len s5.cap) w5 ∧
            Calls Pr 94 #[(.slice s5.a s5.len s5.cap)] w5 fun e4 w6 =>
              ∃ (s6 : SV),
              e4 = .returned (.slice s6.a s6.len s6.cap) ∧
              R (.tuple #[(.slice s6.a s6.len s6.cap), (.int .i64 0)]) w6)

theorem call84 {x0 : SV} {x1 : SV} {w0 : World} {R : Ending → World → Prop} (h : ir84 x0 x1 w0 fun v w => R (.returned v) w) : Calls Pr 84 #[.slice x0.a x0.len x0.cap, .slice x1.a x1.len x1.cap] w0 R := by
  refine calls_of_vc (ann := []) (E := []) (args := [.slice x0.a x0.len x0.cap, .slice x1.a x1.len x1.cap]) follows Try.func84 rfl (by kernel_rfl) ?_
  apply by_eq h
  kernel_rfl

/-- (*creel/disk.Disk).Rename -/
def ir85 (x0 : Option Addr) (x1 : ByteArray) (x2 : ByteArray) (w0 : World) (R : Value → World → Prop) : Prop :=
  Calls Pr 87 #[(.pointer x0), (.string x1)] w0 fun e1 w1 =>
    ∃ (p1 : Option Addr) (n1 : Int),
    e1 = .returned (.tuple #[(.pointer p1), (.int .i64 n1)]) ∧
    brc (n1 != (0 : Int))
      (R (.int .i64 n1) w1)
      (Calls Pr 92 #[(.string x2)] w1 fun e2 w2 =>
          ∃ (b1 : Bool),
          e2 = .returned (.bool b1) ∧
          brc (!b1)
            (R (.int .i64 1) w2)
            (Calls Pr 93 #[(.pointer x0), (.agg #[(.string x1), (.string x2), (.pointer p1)])] w2 fun e3 w3 =>
                e3 = .returned (.tuple #[]) ∧
                R (.int .i64 0) w3))

theorem call85 {x0 : Option Addr} {x1 : ByteArray} {x2 : ByteArray} {w0 : World} {R : Ending → World → Prop} (h : ir85 x0 x1 x2 w0 fun v w => R (.returned v) w) : Calls Pr 85 #[.pointer x0, .string x1, .string x2] w0 R := by
  refine calls_of_vc (ann := []) (E := []) (args := [.pointer x0, .string x1, .string x2]) follows Try.func85 rfl (by kernel_rfl) ?_
  apply by_eq h
  kernel_rfl

/-- (*creel/disk.Disk).Remove -/
def ir86 (x0 : Option Addr) (x1 : ByteArray) (w0 : World) (R : Value → World → Prop) : Prop :=
  Calls Pr 87 #[(.pointer x0), (.string x1)] w0 fun e1 w1 =>
    ∃ (p1 : Option Addr) (n1 : Int),
    e1 = .returned (.tuple #[(.pointer p1), (.int .i64 n1)]) ∧
    brc (n1 != (0 : Int))
      (R (.int .i64 n1) w1)
      (Calls Pr 93 #[(.pointer x0), (.agg #[(.string x1), (.string ByteArray.empty), (.pointer none)])] w1 fun e2 w2 =>
          e2 = .returned (.tuple #[]) ∧
          R (.int .i64 0) w2)

theorem call86 {x0 : Option Addr} {x1 : ByteArray} {w0 : World} {R : Ending → World → Prop} (h : ir86 x0 x1 w0 fun v w => R (.returned v) w) : Calls Pr 86 #[.pointer x0, .string x1] w0 R := by
  refine calls_of_vc (ann := []) (E := []) (args := [.pointer x0, .string x1]) follows Try.func86 rfl (by kernel_rfl) ?_
  apply by_eq h
  kernel_rfl

/-- (*creel/disk.Disk).find -/
def ir87 (x0 : Option Addr) (x1 : ByteArray) (w0 : World) (R : Value → World → Prop) : Prop :=
  Calls Pr 91 #[(.pointer x0)] w0 fun e1 w1 =>
    ∃ (n1 : Int),
    e1 = .returned (.int .i64 n1) ∧
    brc (n1 != (0 : Int))
      (R (.tuple #[(.pointer none), (.int .i64 n1)]) w1)
      (optK x0 fun a1 =>
          ∃ (m1 : Option Nat),
          At Pr w1 (loadVar 137 (Addr.add a1 0)) (.map m1) ∧
          ∃ (p1 : Option Addr),
          At Pr w1 (Instr.lookup 137 (.map m1) (.string x1) false) (.pointer p1) ∧
          brc (Option.isNone p1)
            (R (.tuple #[(.pointer none), (.int .i64 2)]) w1)
            (R (.tuple #[(.pointer p1), (.int .i64 0)]) w1))

theorem call87 {x0 : Option Addr} {x1 : ByteArray} {w0 : World} {R : Ending → World → Prop} (h : ir87 x0 x1 w0 fun v w => R (.returned v) w) : Calls Pr 87 #[.pointer x0, .string x1] w0 R := by
  refine calls_of_vc (ann := []) (E := []) (args := [.pointer x0, .string x1]) follows Try.func87 rfl (by kernel_rfl) ?_
  apply by_eq h
  kernel_rfl

/-- slices.Clone[[]byte,byte] -/
def ir88 (x0 : SV) (w0 : World) (R : Value → World → Prop) : Prop :=
  ∃ (b1 : Bool),
  At Pr w0 (do eqGuard .eql 26 (.tmp 3) (.const (.slice none 0 0)) (.slice x0.a x0.len x0.cap) (.slice none 0 0); binOp .eql 26 (.slice x0.a x0.len x0.cap) (.slice none 0 0)) (.bool b1) ∧
  brc (b1)
    (R (.slice none 0 0) w0)
    (∃ (s1 : SV) (w1 : World),
      Sem.run Pr (Instr.buildSlice 26 0 #[]) w0 = .ok (.slice s1.a s1.len s1.cap) w1 ∧
      ∃ (s2 : SV) (w2 : World),
      Sem.run Pr (Builtin.append_ #[26, 26] 26 #[(.slice s1.a s1.len s1.cap), (.slice x0.a x0.len x0.cap)]) w1 = .ok (.slice s2.a s2.len s2.cap) w2 ∧
      R (.slice s2.a s2.len s2.cap) w2)

theorem call88 {x0 : SV} {w0 : World} {R : Ending → World → Prop} (h : ir88 x0 w0 fun v w => R (.returned v) w) : Calls Pr 88 #[.slice x0.a x0.len x0.cap] w0 R := by
  refine calls_of_vc (ann := []) (E := []) (args := [.slice x0.a x0.len x0.cap]) follows Try.func88 rfl (by kernel_rfl) ?_
  apply by_eq h
  kernel_rfl

/-- (*creel/disk.Disk).ready -/
def ir91 (x0 : Option Addr) (w0 : World) (R : Value → World → Prop) : Prop :=
  brc (Option.isNone x0)
    (R (.int .i64 2) w0)
    (optK x0 fun a1 =>
        ∃ (b1 : Bool),
        At Pr w0 (loadVar 4 (Addr.add a1 4)) (.bool b1) ∧
        brc (b1)
          (R (.int .i64 40) w0)
          (optK x0 fun a2 =>
              ∃ (b2 : Bool),
              At Pr w0 (loadVar 4 (Addr.add a2 5)) (.bool b2) ∧
              brc (b2)
                (optK x0 fun a3 =>
                    ∃ (n1 : Int),
                    At Pr w0 (loadVar 3 (Addr.add a3 6)) (.int .i64 n1) ∧
                    brc (n1 == (0 : Int))
                      (optK x0 fun a4 =>
                          ∃ (w1 : World),
                          Sem.run Pr (Instr.storeAt 4 (.pointer (some (Addr.add a4 4))) (.bool true)) w0 = .ok () w1 ∧
                          R (.int .i64 40) w1)
                      (optK x0 fun a5 =>
                          ∃ (b3 : Bool),
                          At Pr w0 (loadVar 4 (Addr.add a5 5)) (.bool b3) ∧
                          brc (b3)
                            (optK x0 fun a6 =>
                                ∃ (n2 : Int),
                                At Pr w0 (loadVar 3 (Addr.add a6 6)) (.int .i64 n2) ∧
                                optK x0 fun a7 =>
                                  ∃ (w2 : World),
                                  Sem.run Pr (Instr.storeAt 3 (.pointer (some (Addr.add a7 6))) (.int .i64 (IntKind.wrap .i64 (n2 - 1)))) w0 = .ok () w2 ∧
                                  R (.int .i64 0) w2)
                            (R (.int .i64 0) w0)))
                (optK x0 fun a8 =>
                    ∃ (b4 : Bool),
                    At Pr w0 (loadVar 4 (Addr.add a8 5)) (.bool b4) ∧
                    brc (b4)
                      (optK x0 fun a9 =>
                          ∃ (n3 : Int),
                          At Pr w0 (loadVar 3 (Addr.add a9 6)) (.int .i64 n3) ∧
                          optK x0 fun a10 =>
                            ∃ (w3 : World),
                            Sem.run Pr (Instr.storeAt 3 (.pointer (some (Addr.add a10 6))) (.int .i64 (IntKind.wrap .i64 (n3 - 1)))) w0 = .ok () w3 ∧
                            R (.int .i64 0) w3)
                      (R (.int .i64 0) w0))))

theorem call91 {x0 : Option Addr} {w0 : World} {R : Ending → World → Prop} (h : ir91 x0 w0 fun v w => R (.returned v) w) : Calls Pr 91 #[.pointer x0] w0 R := by
  refine calls_of_vc (ann := []) (E := []) (args := [.pointer x0]) follows Try.func91 rfl (by kernel_rfl) ?_
  apply by_eq h
  kernel_rfl

/-- creel/disk.right -/
def ir92 (x0 : ByteArray) (w0 : World) (R : Value → World → Prop) : Prop :=
  brc (decide (((ByteArray.size x0 : Nat) : Int) ≥ (1 : Int)))
    (R (.bool (decide (((ByteArray.size x0 : Nat) : Int) ≤ (32 : Int)))) w0)
    (R (.bool false) w0)

theorem call92 {x0 : ByteArray} {w0 : World} {R : Ending → World → Prop} (h : ir92 x0 w0 fun v w => R (.returned v) w) : Calls Pr 92 #[.string x0] w0 R := by
  refine calls_of_vc (ann := []) (E := []) (args := [.string x0]) follows Try.func92 rfl (by kernel_rfl) ?_
  apply by_eq h
  kernel_rfl

/-- (*creel/disk.Disk).changed -/
def ir93 (x0 : Option Addr) (x1_gone : ByteArray) (x1_new : ByteArray) (x1_file : Option Addr) (w0 : World) (R : Value → World → Prop) : Prop :=
  ∃ (a1 : Addr) (w1 : World),
  Sem.run Pr (Instr.box 153 (.agg #[(.string x1_gone), (.string x1_new), (.pointer x1_file)])) w0 = .ok (.pointer (some a1)) w1 ∧
  ∃ (S1 : World → Prop),
  S1 (World.drew w1) ∧
  optK x0 fun a2 =>
    ∃ (m1 : Option Nat),
    AtS Pr S1 (loadVar 137 (Addr.add a2 0)) (.map m1) ∧
    ∃ (str1 : ByteArray) (str2 : ByteArray) (p1 : Option Addr),
    AtS Pr S1 (loadVar 153 a1) (.agg #[(.string str1), (.string str2), (.pointer p1)]) ∧
    Calls Pr 109 #[(.map m1), (.agg #[(.string str1), (.string str2), (.pointer p1)])] (World.drew w1) fun e1 w2 =>
      e1 = .returned (.tuple #[]) ∧
      ∃ (S2 : World → Prop),
      S2 w2 ∧
      ∃ (S3 : World → Prop),
      S3 (World.drew w2) ∧
      optK x0 fun a3 =>
        ∃ (s1 : SV),
        AtS Pr S3 (loadVar 138 (Addr.add a3 2)) (.slice s1.a s1.len s1.cap) ∧
        ∃ (str3 : ByteArray) (str4 : ByteArray) (p2 : Option Addr),
        AtS Pr S3 (loadVar 153 a1) (.agg #[(.string str3), (.string str4), (.pointer p2)]) ∧
        ∃ (s2 : SV) (w3 : World),
        Sem.run Pr (Instr.buildSlice 138 1 #[(0, (.agg #[(.string str3), (.string str4), (.pointer p2)]))]) (World.drew w2) = .ok (.slice s2.a s2.len s2.cap) w3 ∧
        ∃ (S4 : World → Prop),
        (∀ w, S4 w → S3 w) ∧
        S4 w3 ∧
        ∃ (s3 : SV) (w4 : World),
        Sem.run Pr (Builtin.append_ #[138, 138] 138 #[(.slice s1.a s1.len s1.cap), (.slice s2.a s2.len s2.cap)]) w3 = .ok (.slice s3.a s3.len s3.cap) w4 ∧
        ∃ (S5 : World → Prop),
        (∀ w, S5 w → S4 w) ∧
        S5 w4 ∧
        optK x0 fun a4 =>
          ∃ (w5 : World),
          Sem.run Pr (Instr.storeAt 138 (.pointer (some (Addr.add a4 2))) (.slice s3.a s3.len s3.cap)) w4 = .ok () w5 ∧
          ∃ (S6 : World → Prop),
          S6 w5 ∧
          R (.tuple #[]) w5

theorem call93 {x0 : Option Addr} {x1_gone : ByteArray} {x1_new : ByteArray} {x1_file : Option Addr} {w0 : World} {R : Ending → World → Prop} (h : ir93 x0 x1_gone x1_new x1_file w0 fun v w => R (.returned v) w) : Calls Pr 93 #[.pointer x0, .agg #[(.string x1_gone), (.string x1_new), (.pointer x1_file)]] w0 R := by
  refine calls_of_vc (ann := []) (E := []) (args := [.pointer x0, .agg #[(.string x1_gone), (.string x1_new), (.pointer x1_file)]]) follows Try.func93 rfl (by kernel_rfl) ?_
  apply by_eq h
  kernel_rfl

/-- slices.Concat[[]byte,byte] -/
def ir94 (x0 : SV) (w0 : World) (R : Value → World → Prop) : Prop :=
  LoopT (σ := Int × Int × Unit) (fun σ1 w1 K1 =>
    ∀ _ : Env,
    brc (decide (σ1.1 < ((x0.len : Nat) : Int)))
      (((0 : Int) ≤ σ1.1 ∧ σ1.1 < ((x0.len : Nat) : Int)) ∧
        optK x0.a fun a1 =>
          ∃ (s1 : SV),
          At Pr w1 (loadVar 26 (Addr.add a1 (Int.toNat σ1.1 * 1))) (.slice s1.a s1.len s1.cap) ∧
          brc (decide ((IntKind.wrap .i64 (σ1.2.1 + ((s1.len : Nat) : Int))) < (0 : Int)))
            (∃ (v1 : Value),
              At Pr w1 (Instr.makeInterface 9 (.string (⟨#[108, 101, 110, 32, 111, 117, 116, 32, 111, 102, 32, 114, 97, 110, 103, 101]⟩ : ByteArray))) v1 ∧
              False)
            (K1 (IntKind.wrap .i64 (σ1.1 + 1), IntKind.wrap .i64 (σ1.2.1 + ((s1.len : Nat) : Int)), ()) w1))
      (Calls Pr 140 #[(.slice none 0 0), (.int .i64 σ1.2.1)] w1 fun e1 w2 =>
          ∃ (s2 : SV),
          e1 = .returned (.slice s2.a s2.len s2.cap) ∧
          LoopT (σ := Int × SV × Unit) (fun σ2 w3 K2 =>
            ∀ _ : Env,
            brc (decide (σ2.1 < ((x0.len : Nat) : Int)))
              (((0 : Int) ≤ σ2.1 ∧ σ2.1 < ((x0.len : Nat) : Int)) ∧
                optK x0.a fun a2 =>
                  ∃ (s3 : SV),
                  At Pr w3 (loadVar 26 (Addr.add a2 (Int.toNat σ2.1 * 1))) (.slice s3.a s3.len s3.cap) ∧
                  ∃ (s4 : SV) (w4 : World),
                  Sem.run Pr (Builtin.append_ #[26, 26] 26 #[(.slice σ2.2.1.a σ2.2.1.len σ2.2.1.cap), (.slice s3.a s3.len s3.cap)]) w3 = .ok (.slice s4.a s4.len s4.cap) w4 ∧
                  K2 (IntKind.wrap .i64 (σ2.1 + 1), s4, ()) w4)
              (R (.slice σ2.2.1.a σ2.2.1.len σ2.2.1.cap) w3)) (0, s2, ()) w2)) (0, 0, ()) w0

theorem call94 {x0 : SV} {w0 : World} {R : Ending → World → Prop} (h : ir94 x0 w0 fun v w => R (.returned v) w) : Calls Pr 94 #[.slice x0.a x0.len x0.cap] w0 R := by
  refine calls_of_vc (ann := [(3, [(11, .int .i64), (3, .int .i64)]), (11, [(27, .int .i64), (6, .slice)])]) (E := []) (args := [.slice x0.a x0.len x0.cap]) follows Try.func94 rfl (by kernel_rfl) ?_
  apply by_eq h
  kernel_rfl

/-- maps.Clone[creel/disk.names,string,*creel/disk.file] -/
def ir108 (x0 : Option Nat) (w0 : World) (R : Value → World → Prop) : Prop :=
  ∃ (b1 : Bool),
  At Pr w0 (do eqGuard .eql 137 (.tmp 3) (.const (.map none)) (.map x0) (.map none); binOp .eql 137 (.map x0) (.map none)) (.bool b1) ∧
  brc (b1)
    (R (.map none) w0)
    (∃ (v1 : Value),
      At Pr w0 (Instr.makeInterface 137 (.map x0)) v1 ∧
      Does Pr (callFunc 145 #[v1]) w0 fun v2 w1 =>
        ∃ (m1 : Option Nat),
        At Pr w1 (Instr.typeAssert v2 20 137 false) (.map m1) ∧
        R (.map m1) w1)

set_option maxRecDepth 100000 in
theorem call108 {x0 : Option Nat} {w0 : World} {R : Ending → World → Prop} (h : ir108 x0 w0 fun v w => R (.returned v) w) : Calls Pr 108 #[.map x0] w0 R := by
  refine calls_of_vc (ann := []) (E := []) (args := [.map x0]) follows Try.func108 rfl (by kernel_rfl) ?_
  apply by_eq h
  kernel_rfl

/-- (creel/disk.names).do -/
def ir109 (x0 : Option Nat) (x1_gone : ByteArray) (x1_new : ByteArray) (x1_file : Option Addr) (w0 : World) (R : Value → World → Prop) : Prop :=
  ∃ (a1 : Addr) (w1 : World),
  Sem.run Pr (Instr.box 153 (.agg #[(.string x1_gone), (.string x1_new), (.pointer x1_file)])) w0 = .ok (.pointer (some a1)) w1 ∧
  ∃ (str1 : ByteArray),
  At Pr w1 (loadVar 9 (Addr.add a1 0)) (.string str1) ∧
  ∃ (w2 : World),
  Sem.run Pr (Builtin.delete_ #[137, 9] 0 #[(.map x0), (.string str1)]) w1 = .ok (.tuple #[]) w2 ∧
  ∃ (str2 : ByteArray),
  At Pr w2 (loadVar 9 (Addr.add a1 1)) (.string str2) ∧
  brc (!(ByteArray.toList str2 == ByteArray.toList (⟨#[]⟩ : ByteArray)))
    (∃ (str3 : ByteArray),
      At Pr w2 (loadVar 9 (Addr.add a1 1)) (.string str3) ∧
      ∃ (p1 : Option Addr),
      At Pr w2 (loadVar 141 (Addr.add a1 2)) (.pointer p1) ∧
      ∃ (w3 : World),
      Sem.run Pr (Instr.mapUpdate 137 (.map x0) (.string str3) (.pointer p1)) w2 = .ok () w3 ∧
      R (.tuple #[]) w3)
    (R (.tuple #[]) w2)

theorem call109 {x0 : Option Nat} {x1_gone : ByteArray} {x1_new : ByteArray} {x1_file : Option Addr} {w0 : World} {R : Ending → World → Prop} (h : ir109 x0 x1_gone x1_new x1_file w0 fun v w => R (.returned v) w) : Calls Pr 109 #[.map x0, .agg #[(.string x1_gone), (.string x1_new), (.pointer x1_file)]] w0 R := by
  refine calls_of_vc (ann := []) (E := []) (args := [.map x0, .agg #[(.string x1_gone), (.string x1_new), (.pointer x1_file)]]) follows Try.func109 rfl (by kernel_rfl) ?_
  apply by_eq h
  kernel_rfl

/-- creel/creelref03.Seal -/
def ir128 (x0 : SV) (w0 : World) (R : Value → World → Prop) : Prop :=
  Calls Pr 150 #[(.slice x0.a x0.len x0.cap)] w0 fun e1 w1 =>
    ∃ (n1 : Int),
    e1 = .returned (.int .u32 n1) ∧
    ∃ (s1 : SV) (w2 : World),
    Sem.run Pr (Instr.buildSlice 26 0 #[]) w1 = .ok (.slice s1.a s1.len s1.cap) w2 ∧
    ∃ (s2 : SV) (w3 : World),
    Sem.run Pr (Builtin.append_ #[26, 26] 26 #[(.slice s1.a s1.len s1.cap), (.slice x0.a x0.len x0.cap)]) w2 = .ok (.slice s2.a s2.len s2.cap) w3 ∧
    (256 : Int) ≠ 0 ∧
    (256 : Int) ≠ 0 ∧
    (256 : Int) ≠ 0 ∧
    (65536 : Int) ≠ 0 ∧
    (256 : Int) ≠ 0 ∧
    (16777216 : Int) ≠ 0 ∧
    ∃ (s3 : SV) (w4 : World),
    Sem.run Pr (Instr.buildSlice 26 4 #[(0, (.int .u8 (IntKind.wrap .u8 (Int.tmod n1 256)))), (1, (.int .u8 (IntKind.wrap .u8 (Int.tmod (IntKind.wrap .u32 (Int.tdiv n1 256)) 256)))), (2, (.int .u8 (IntKind.wrap .u8 (Int.tmod (IntKind.wrap .u32 (Int.tdiv n1 65536)) 256)))), (3, (.int .u8 (IntKind.wrap .u8 (IntKind.wrap .u32 (Int.tdiv n1 16777216)))))]) w3 = .ok (.slice s3.a s3.len s3.cap) w4 ∧
    ∃ (s4 : SV) (w5 : World),
    Sem.run Pr (Builtin.append_ #[26, 26] 26 #[(.slice s2.a s2.len s2.cap), (.slice s3.a s3.len s3.cap)]) w4 = .ok (.slice s4.a s4.len s4.cap) w5 ∧
    R (.slice s4.a s4.len s4.cap) w5

theorem call128 {x0 : SV} {w0 : World} {R : Ending → World → Prop} (h : ir128 x0 w0 fun v w => R (.returned v) w) : Calls Pr 128 #[.slice x0.a x0.len x0.cap] w0 R := by
  refine calls_of_vc (ann := []) (E := []) (args := [.slice x0.a x0.len x0.cap]) follows Try.func128 rfl (by kernel_rfl) ?_
  apply by_eq h
  kernel_rfl

/-- creel/creelref01.Fix -/
def ir129 (x0 : SV) (x1 : Int) (x2 : Int) (w0 : World) (R : Value → World → Prop) : Prop :=
  ∃ (s1 : SV) (w1 : World),
  Sem.run Pr (Instr.buildSlice 26 0 #[]) w0 = .ok (.slice s1.a s1.len s1.cap) w1 ∧
  ∃ (s2 : SV) (w2 : World),
  Sem.run Pr (Builtin.append_ #[26, 26] 26 #[(.slice s1.a s1.len s1.cap), (.slice x0.a x0.len x0.cap)]) w1 = .ok (.slice s2.a s2.len s2.cap) w2 ∧
  brc (decide (x2 < (1 : Int)))
    (R (.slice s2.a s2.len s2.cap) w2)
    (brc (decide (x2 > (8 : Int)))
        (R (.slice s2.a s2.len s2.cap) w2)
        (LoopT (σ := Int × SV × Unit) (fun σ1 w3 K1 =>
            ∀ _ : Env,
            brc (decide (σ1.1 ≥ (0 : Int)))
              (LoopT (σ := Int × Int × Unit) (fun σ2 w4 K2 =>
                  ∀ _ : Env,
                  brc (decide (σ2.1 < σ1.1))
                    ((256 : Int) ≠ 0 ∧
                      K2 (IntKind.wrap .i64 (σ2.1 + 1), IntKind.wrap .u64 (Int.tdiv σ2.2.1 256), ()) w4)
                    ((256 : Int) ≠ 0 ∧
                      ∃ (s3 : SV) (w5 : World),
                      Sem.run Pr (Instr.buildSlice 26 1 #[(0, (.int .u8 (IntKind.wrap .u8 (Int.tmod σ2.2.1 256))))]) w4 = .ok (.slice s3.a s3.len s3.cap) w5 ∧
                      ∃ (s4 : SV) (w6 : World),
                      Sem.run Pr (Builtin.append_ #[26, 26] 26 #[(.slice σ1.2.1.a σ1.2.1.len σ1.2.1.cap), (.slice s3.a s3.len s3.cap)]) w5 = .ok (.slice s4.a s4.len s4.cap) w6 ∧
                      K1 (IntKind.wrap .i64 (σ1.1 - 1), s4, ()) w6)) (0, x1, ()) w3)
              (R (.slice σ1.2.1.a σ1.2.1.len σ1.2.1.cap) w3)) (IntKind.wrap .i64 (x2 - 1), s2, ()) w2))

theorem call129 {x0 : SV} {x1 : Int} {x2 : Int} {w0 : World} {R : Ending → World → Prop} (h : ir129 x0 x1 x2 w0 fun v w => R (.returned v) w) : Calls Pr 129 #[.slice x0.a x0.len x0.cap, .int .u64 x1, .int .i64 x2] w0 R := by
  refine calls_of_vc (ann := [(5, [(8, .int .i64), (7, .slice)]), (9, [(10, .int .i64), (9, .int .u64)])]) (E := []) (args := [.slice x0.a x0.len x0.cap, .int .u64 x1, .int .i64 x2]) follows Try.func129 rfl (by kernel_rfl) ?_
  apply by_eq h
  kernel_rfl

/-- bytes.Compare -/
def ir136 (x0 : SV) (x1 : SV) (w0 : World) (R : Value → World → Prop) : Prop :=
  Does Pr (callFunc 155 #[(.slice x0.a x0.len x0.cap), (.slice x1.a x1.len x1.cap)]) w0 fun v1 w1 =>
    R v1 w1

set_option maxRecDepth 100000 in
theorem call136 {x0 : SV} {x1 : SV} {w0 : World} {R : Ending → World → Prop} (h : ir136 x0 x1 w0 fun v w => R (.returned v) w) : Calls Pr 136 #[.slice x0.a x0.len x0.cap, .slice x1.a x1.len x1.cap] w0 R := by
  refine calls_of_vc (ann := []) (E := []) (args := [.slice x0.a x0.len x0.cap, .slice x1.a x1.len x1.cap]) follows Try.func136 rfl (by kernel_rfl) ?_
  apply by_eq h
  kernel_rfl

/-- creel/frame.Seal -/
def ir137 (x0 : SV) (w0 : World) (R : Value → World → Prop) : Prop :=
  ∃ (s1 : SV) (w1 : World),
  Sem.run Pr (Instr.makeSlice 26 (.int .i64 (IntKind.wrap .i64 (((x0.len : Nat) : Int) + 4))) (.int .i64 (IntKind.wrap .i64 (((x0.len : Nat) : Int) + 4)))) w0 = .ok (.slice s1.a s1.len s1.cap) w1 ∧
  ∃ (n1 : Int) (w2 : World),
  Sem.run Pr (Builtin.copy_ #[26, 26] 3 #[(.slice s1.a s1.len s1.cap), (.slice x0.a x0.len x0.cap)]) w1 = .ok (.int .i64 n1) w2 ∧
  Calls Pr 156 #[(.slice x0.a x0.len x0.cap)] w2 fun e1 w3 =>
    ∃ (n2 : Int),
    e1 = .returned (.int .u32 n2) ∧
    ((0 : Int) ≤ ((x0.len : Nat) : Int) ∧ ((x0.len : Nat) : Int) ≤ ((s1.len : Nat) : Int)) ∧
    LoopT (σ := Int × Unit) (fun σ1 w4 K1 =>
      ∀ _ : Env,
      brc (decide (σ1.1 < ((s1.len - (Int.toNat ((x0.len : Nat) : Int)) : Nat) : Int)))
        ((0 : Int) ≤ (IntKind.wrap .i64 (8 * σ1.1)) ∧
          ((0 : Int) ≤ (IntKind.wrap .i64 (((x0.len : Nat) : Int) + σ1.1)) ∧ (IntKind.wrap .i64 (((x0.len : Nat) : Int) + σ1.1)) < ((s1.len : Nat) : Int)) ∧
          optK s1.a fun a1 =>
            ∃ (w5 : World),
            Sem.run Pr (Instr.storeAt 5 (.pointer (some (Addr.add a1 (Int.toNat (IntKind.wrap .i64 (((x0.len : Nat) : Int) + σ1.1)) * 1)))) (.int .u8 (IntKind.wrap .u8 (Int.fdiv n2 (2 ^ (min (Int.toNat (IntKind.wrap .i64 (8 * σ1.1))) (IntKind.bits .u32))))))) w4 = .ok () w5 ∧
            K1 (IntKind.wrap .i64 (σ1.1 + 1), ()) w5)
        (R (.slice s1.a s1.len s1.cap) w4)) (0, ()) w3

theorem call137 {x0 : SV} {w0 : World} {R : Ending → World → Prop} (h : ir137 x0 w0 fun v w => R (.returned v) w) : Calls Pr 137 #[.slice x0.a x0.len x0.cap] w0 R := by
  refine calls_of_vc (ann := [(5, [(20, .int .i64)])]) (E := []) (args := [.slice x0.a x0.len x0.cap]) follows Try.func137 rfl (by kernel_rfl) ?_
  apply by_eq h
  kernel_rfl

/-- creel/vary.Fix -/
def ir138 (x0 : SV) (x1 : Int) (x2 : Int) (w0 : World) (R : Value → World → Prop) : Prop :=
  Calls Pr 88 #[(.slice x0.a x0.len x0.cap)] w0 fun e1 w1 =>
    ∃ (s1 : SV),
    e1 = .returned (.slice s1.a s1.len s1.cap) ∧
    brc (decide (x2 < (1 : Int)))
      (R (.slice s1.a s1.len s1.cap) w1)
      (brc (decide (x2 > (8 : Int)))
          (R (.slice s1.a s1.len s1.cap) w1)
          (LoopT (σ := Int × SV × Unit) (fun σ1 w2 K1 =>
              ∀ _ : Env,
              brc (decide (σ1.1 ≥ (0 : Int)))
                ((0 : Int) ≤ (IntKind.wrap .i64 (8 * σ1.1)) ∧
                  ∃ (s2 : SV) (w3 : World),
                  Sem.run Pr (Instr.buildSlice 26 1 #[(0, (.int .u8 (IntKind.wrap .u8 (Int.fdiv x1 (2 ^ (min (Int.toNat (IntKind.wrap .i64 (8 * σ1.1))) (IntKind.bits .u64)))))))]) w2 = .ok (.slice s2.a s2.len s2.cap) w3 ∧
                  ∃ (s3 : SV) (w4 : World),
                  Sem.run Pr (Builtin.append_ #[26, 26] 26 #[(.slice σ1.2.1.a σ1.2.1.len σ1.2.1.cap), (.slice s2.a s2.len s2.cap)]) w3 = .ok (.slice s3.a s3.len s3.cap) w4 ∧
                  K1 (IntKind.wrap .i64 (σ1.1 - 1), s3, ()) w4)
                (R (.slice σ1.2.1.a σ1.2.1.len σ1.2.1.cap) w2)) (IntKind.wrap .i64 (x2 - 1), s1, ()) w1))

theorem call138 {x0 : SV} {x1 : Int} {x2 : Int} {w0 : World} {R : Ending → World → Prop} (h : ir138 x0 x1 x2 w0 fun v w => R (.returned v) w) : Calls Pr 138 #[.slice x0.a x0.len x0.cap, .int .u64 x1, .int .i64 x2] w0 R := by
  refine calls_of_vc (ann := [(5, [(8, .int .i64), (7, .slice)])]) (E := []) (args := [.slice x0.a x0.len x0.cap, .int .u64 x1, .int .i64 x2]) follows Try.func138 rfl (by kernel_rfl) ?_
  apply by_eq h
  kernel_rfl

/-- slices.Grow[[]byte,byte] -/
def ir140 (x0 : SV) (x1 : Int) (w0 : World) (R : Value → World → Prop) : Prop :=
  brc (decide (x1 < (0 : Int)))
    (∃ (v1 : Value),
      At Pr w0 (Instr.makeInterface 9 (.string (⟨#[99, 97, 110, 110, 111, 116, 32, 98, 101, 32, 110, 101, 103, 97, 116, 105, 118, 101]⟩ : ByteArray))) v1 ∧
      False)
    (∃ (n1 : Int),
      At Pr w0 (Builtin.cap_ #[26] 3 #[(.slice x0.a x0.len x0.cap)]) (.int .i64 n1) ∧
      brc (decide ((IntKind.wrap .i64 (x1 - (IntKind.wrap .i64 (n1 - ((x0.len : Nat) : Int))))) > (0 : Int)))
        (∃ (n2 : Int),
          At Pr w0 (Builtin.cap_ #[26] 3 #[(.slice x0.a x0.len x0.cap)]) (.int .i64 n2) ∧
          ((0 : Int) ≤ n2 ∧ n2 ≤ ((x0.cap : Nat) : Int)) ∧
          ∃ (s1 : SV) (w1 : World),
          Sem.run Pr (Builtin.append_ #[26, 3] 26 #[(.slice (cutAt x0.a 0 x0.cap 1) ((Int.toNat n2) - 0) (x0.cap - 0)), (.int .i64 (IntKind.wrap .i64 (x1 - (IntKind.wrap .i64 (n1 - ((x0.len : Nat) : Int))))))]) w0 = .ok (.slice s1.a s1.len s1.cap) w1 ∧
          ((0 : Int) ≤ ((x0.len : Nat) : Int) ∧ ((x0.len : Nat) : Int) ≤ ((s1.cap : Nat) : Int)) ∧
          R (.slice (cutAt s1.a 0 s1.cap 1) ((Int.toNat ((x0.len : Nat) : Int)) - 0) (s1.cap - 0)) w1)
        (R (.slice x0.a x0.len x0.cap) w0))

theorem call140 {x0 : SV} {x1 : Int} {w0 : World} {R : Ending → World → Prop} (h : ir140 x0 x1 w0 fun v w => R (.returned v) w) : Calls Pr 140 #[.slice x0.a x0.len x0.cap, .int .i64 x1] w0 R := by
  refine calls_of_vc (ann := []) (E := []) (args := [.slice x0.a x0.len x0.cap, .int .i64 x1]) follows Try.func140 rfl (by kernel_rfl) ?_
  apply by_eq h
  kernel_rfl

/-- creel/creelref02.Sum -/
def ir150 (x0 : SV) (w0 : World) (R : Value → World → Prop) : Prop :=
  Calls Pr 162 #[(.int .u32 0), (.slice x0.a x0.len x0.cap)] w0 fun e1 w1 =>
    ∃ (n1 : Int),
    e1 = .returned (.int .u32 n1) ∧
    R (.int .u32 n1) w1

theorem call150 {x0 : SV} {w0 : World} {R : Ending → World → Prop} (h : ir150 x0 w0 fun v w => R (.returned v) w) : Calls Pr 150 #[.slice x0.a x0.len x0.cap] w0 R := by
  refine calls_of_vc (ann := []) (E := []) (args := [.slice x0.a x0.len x0.cap]) follows Try.func150 rfl (by kernel_rfl) ?_
  apply by_eq h
  kernel_rfl

/-- creel/crc.Sum -/
def ir156 (x0 : SV) (w0 : World) (R : Value → World → Prop) : Prop :=
  Calls Pr 167 #[(.int .u32 0), (.slice x0.a x0.len x0.cap)] w0 fun e1 w1 =>
    ∃ (n1 : Int),
    e1 = .returned (.int .u32 n1) ∧
    R (.int .u32 n1) w1

theorem call156 {x0 : SV} {w0 : World} {R : Ending → World → Prop} (h : ir156 x0 w0 fun v w => R (.returned v) w) : Calls Pr 156 #[.slice x0.a x0.len x0.cap] w0 R := by
  refine calls_of_vc (ann := []) (E := []) (args := [.slice x0.a x0.len x0.cap]) follows Try.func156 rfl (by kernel_rfl) ?_
  apply by_eq h
  kernel_rfl

/-- creel/creelref02.Add -/
def ir162 (x0 : Int) (x1 : SV) (w0 : World) (R : Value → World → Prop) : Prop :=
  LoopT (σ := Int × Int × Unit) (fun σ1 w1 K1 =>
    ∀ _ : Env,
    brc (decide (σ1.1 < ((x1.len : Nat) : Int)))
      (((0 : Int) ≤ σ1.1 ∧ σ1.1 < ((x1.len : Nat) : Int)) ∧
        optK x1.a fun a1 =>
          ∃ (n1 : Int),
          At Pr w1 (loadVar 5 (Addr.add a1 (Int.toNat σ1.1 * 1))) (.int .u8 n1) ∧
          (256 : Int) ≠ 0 ∧
          Calls Pr 179 #[(.int .u32 (Int.tmod (IntKind.wrap .u32 ((BitVec.ofInt (IntKind.bits .u32) σ1.2.1 ^^^ BitVec.ofInt (IntKind.bits .u32) (IntKind.wrap .u32 n1)).toNat)) 256))] w1 fun e1 w2 =>
            ∃ (n2 : Int),
            e1 = .returned (.int .u32 n2) ∧
            (256 : Int) ≠ 0 ∧
            K1 (IntKind.wrap .i64 (σ1.1 + 1), IntKind.wrap .u32 ((BitVec.ofInt (IntKind.bits .u32) n2 ^^^ BitVec.ofInt (IntKind.bits .u32) (IntKind.wrap .u32 (Int.tdiv σ1.2.1 256))).toNat), ()) w2)
      (R (.int .u32 (IntKind.wrap .u32 ((BitVec.ofInt (IntKind.bits .u32) 4294967295 ^^^ BitVec.ofInt (IntKind.bits .u32) σ1.2.1).toNat))) w1)) (0, IntKind.wrap .u32 ((BitVec.ofInt (IntKind.bits .u32) 4294967295 ^^^ BitVec.ofInt (IntKind.bits .u32) x0).toNat), ()) w0

theorem call162 {x0 : Int} {x1 : SV} {w0 : World} {R : Ending → World → Prop} (h : ir162 x0 x1 w0 fun v w => R (.returned v) w) : Calls Pr 162 #[.int .u32 x0, .slice x1.a x1.len x1.cap] w0 R := by
  refine calls_of_vc (ann := [(3, [(6, .int .i64), (5, .int .u32)])]) (E := []) (args := [.int .u32 x0, .slice x1.a x1.len x1.cap]) follows Try.func162 rfl (by kernel_rfl) ?_
  apply by_eq h
  kernel_rfl

/-- creel/crc.Add -/
def ir167 (x0 : Int) (x1 : SV) (w0 : World) (R : Value → World → Prop) : Prop :=
  Calls Pr 181 #[] w0 fun e1 w1 =>
    ∃ (arr1 : Array Value),
    e1 = .returned (.agg arr1) ∧
    ∃ (a1 : Addr) (w2 : World),
    Sem.run Pr (Instr.alloc 234 true (.tuple #[])) w1 = .ok (.pointer (some a1)) w2 ∧
    ∃ (w3 : World),
    Sem.run Pr (Instr.storeAt 234 (.pointer (some a1)) (.agg arr1)) w2 = .ok () w3 ∧
    LoopT (σ := Int × Int × Unit) (fun σ1 w4 K1 =>
      ∀ _ : Env,
      brc (decide (σ1.1 < ((x1.len : Nat) : Int)))
        (((0 : Int) ≤ σ1.1 ∧ σ1.1 < ((x1.len : Nat) : Int)) ∧
          optK x1.a fun a2 =>
            ∃ (n1 : Int),
            At Pr w4 (loadVar 5 (Addr.add a2 (Int.toNat σ1.1 * 1))) (.int .u8 n1) ∧
            ((0 : Int) ≤ (IntKind.wrap .u8 ((BitVec.ofInt (IntKind.bits .u8) (IntKind.wrap .u8 σ1.2.1) ^^^ BitVec.ofInt (IntKind.bits .u8) n1).toNat)) ∧ (IntKind.wrap .u8 ((BitVec.ofInt (IntKind.bits .u8) (IntKind.wrap .u8 σ1.2.1) ^^^ BitVec.ofInt (IntKind.bits .u8) n1).toNat)) < ((256 : Nat) : Int)) ∧
            ∃ (n2 : Int),
            At Pr w4 (loadVar 206 (Addr.add a1 (Int.toNat (IntKind.wrap .u8 ((BitVec.ofInt (IntKind.bits .u8) (IntKind.wrap .u8 σ1.2.1) ^^^ BitVec.ofInt (IntKind.bits .u8) n1).toNat)) * 1))) (.int .u32 n2) ∧
            (0 : Int) ≤ 8 ∧
            K1 (IntKind.wrap .i64 (σ1.1 + 1), IntKind.wrap .u32 ((BitVec.ofInt (IntKind.bits .u32) n2 ^^^ BitVec.ofInt (IntKind.bits .u32) (Int.fdiv σ1.2.1 (2 ^ (min (Int.toNat 8) (IntKind.bits .u32))))).toNat), ()) w4)
        (R (.int .u32 (IntKind.wrap .u32 (BitVec.ofInt (IntKind.bits .u32) (if IntKind.signed .u32 then -1 else IntKind.max .u32) ^^^ BitVec.ofInt (IntKind.bits .u32) σ1.2.1).toNat)) w4)) (0, IntKind.wrap .u32 (BitVec.ofInt (IntKind.bits .u32) (if IntKind.signed .u32 then -1 else IntKind.max .u32) ^^^ BitVec.ofInt (IntKind.bits .u32) x0).toNat, ()) w3

theorem call167 {x0 : Int} {x1 : SV} {w0 : World} {R : Ending → World → Prop} (h : ir167 x0 x1 w0 fun v w => R (.returned v) w) : Calls Pr 167 #[.int .u32 x0, .slice x1.a x1.len x1.cap] w0 R := by
  refine calls_of_vc (ann := [(4, [(14, .int .i64), (6, .int .u32)])]) (E := []) (args := [.int .u32 x0, .slice x1.a x1.len x1.cap]) follows Try.func167 rfl (by kernel_rfl) ?_
  apply by_eq h
  kernel_rfl

/-- creel/creelref02.entry -/
def ir179 (x0 : Int) (w0 : World) (R : Value → World → Prop) : Prop :=
  LoopT (σ := Int × Int × Unit) (fun σ1 w1 K1 =>
    ∀ _ : Env,
    brc (decide (σ1.1 < (8 : Int)))
      ((2 : Int) ≠ 0 ∧
        brc ((Int.tmod σ1.2.1 2) == (1 : Int))
          ((2 : Int) ≠ 0 ∧
            K1 (IntKind.wrap .i64 (σ1.1 + 1), IntKind.wrap .u32 ((BitVec.ofInt (IntKind.bits .u32) (IntKind.wrap .u32 (Int.tdiv σ1.2.1 2)) ^^^ BitVec.ofInt (IntKind.bits .u32) 2197175160).toNat), ()) w1)
          ((2 : Int) ≠ 0 ∧
            K1 (IntKind.wrap .i64 (σ1.1 + 1), IntKind.wrap .u32 (Int.tdiv σ1.2.1 2), ()) w1))
      (R (.int .u32 σ1.2.1) w1)) (0, x0, ()) w0

theorem call179 {x0 : Int} {w0 : World} {R : Ending → World → Prop} (h : ir179 x0 w0 fun v w => R (.returned v) w) : Calls Pr 179 #[.int .u32 x0] w0 R := by
  refine calls_of_vc (ann := [(2, [(3, .int .i64), (0, .int .u32)])]) (E := []) (args := [.int .u32 x0]) follows Try.func179 rfl (by kernel_rfl) ?_
  apply by_eq h
  kernel_rfl

/-- creel/crc.Table -/
def ir181 (w0 : World) (R : Value → World → Prop) : Prop :=
  ∃ (a1 : Addr) (w1 : World),
  Sem.run Pr (Instr.alloc 234 true (.tuple #[])) w0 = .ok (.pointer (some a1)) w1 ∧
  ∃ (a2 : Addr) (w2 : World),
  Sem.run Pr (Instr.alloc 234 true (.tuple #[])) w1 = .ok (.pointer (some a2)) w2 ∧
  LoopT (σ := Int × Unit) (fun σ1 w3 K1 =>
    ∀ _ : Env,
    brc (decide (σ1.1 < (256 : Int)))
      (LoopT (σ := Int × Int × Unit) (fun σ2 w4 K2 =>
          ∀ _ : Env,
          brc (decide (σ2.1 < (8 : Int)))
            ((0 : Int) ≤ 1 ∧
              K2 (IntKind.wrap .i64 (σ2.1 + 1), IntKind.wrap .u32 ((BitVec.ofInt (IntKind.bits .u32) (Int.fdiv σ2.2.1 (2 ^ (min (Int.toNat 1) (IntKind.bits .u32)))) ^^^ BitVec.ofInt (IntKind.bits .u32) (IntKind.wrap .u32 ((BitVec.ofInt (IntKind.bits .u32) 2197175160 &&& BitVec.ofInt (IntKind.bits .u32) (IntKind.wrap .u32 (0 - (IntKind.wrap .u32 ((BitVec.ofInt (IntKind.bits .u32) σ2.2.1 &&& BitVec.ofInt (IntKind.bits .u32) 1).toNat))))).toNat))).toNat), ()) w4)
            (((0 : Int) ≤ σ1.1 ∧ σ1.1 < ((256 : Nat) : Int)) ∧
              ∃ (w5 : World),
              Sem.run Pr (Instr.storeAt 206 (.pointer (some (Addr.add a2 (Int.toNat σ1.1 * 1)))) (.int .u32 σ2.2.1)) w4 = .ok () w5 ∧
              K1 (IntKind.wrap .i64 (σ1.1 + 1), ()) w5)) (0, IntKind.wrap .u32 σ1.1, ()) w3)
      (∃ (arr1 : Array Value),
        At Pr w3 (loadVar 234 a2) (.agg arr1) ∧
        ∃ (w6 : World),
        Sem.run Pr (Instr.storeAt 234 (.pointer (some a1)) (.agg arr1)) w3 = .ok () w6 ∧
        ∃ (arr2 : Array Value),
        At Pr w6 (loadVar 234 a1) (.agg arr2) ∧
        R (.agg arr2) w6)) (0, ()) w2

theorem call181 {w0 : World} {R : Ending → World → Prop} (h : ir181 w0 fun v w => R (.returned v) w) : Calls Pr 181 #[] w0 R := by
  refine calls_of_vc (ann := [(3, [(4, .int .i64)]), (7, [(9, .int .i64), (3, .int .u32)])]) (E := []) (args := []) follows Try.func181 rfl (by kernel_rfl) ?_
  apply by_eq h
  kernel_rfl

end Go.Proofs.Ytonjaaljnjjjcaa
