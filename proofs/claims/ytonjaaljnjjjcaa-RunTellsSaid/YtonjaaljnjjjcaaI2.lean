/- What 'vc' of these functions comes to, and their calls by it. Printed by dec.py. -/
import Derived.Test.YtonjaaljnjjjcaaP0
set_option linter.unusedVariables false
set_option linter.unusedSimpArgs false
namespace Go.Proofs.Ytonjaaljnjjjcaa
open Go

/-- creel/creellaw13.rise -/
def ir26 (x0 : SV) (w0 : World) (R : Value → World → Prop) : Prop :=
  Calls Pr 61 #[(.slice x0.a x0.len x0.cap)] w0 fun e1 w1 =>
    ∃ (s1 : SV),
    e1 = .returned (.slice s1.a s1.len s1.cap) ∧
    LoopT (σ := Int × SV × Unit) (fun σ1 w2 K1 =>
      ∀ _ : Env,
      brc (decide (σ1.1 < ((s1.len : Nat) : Int)))
        (((0 : Int) ≤ σ1.1 ∧ σ1.1 < ((s1.len : Nat) : Int)) ∧
          optK s1.a fun a1 =>
            ∃ (s2 : SV),
            At Pr w2 (loadVar 26 (Addr.add a1 (Int.toNat σ1.1 * 1))) (.slice s2.a s2.len s2.cap) ∧
            brc (decide (((s2.len : Nat) : Int) > (64 : Int)))
              (K1 (IntKind.wrap .i64 (σ1.1 + 1), σ1.2.1, ()) w2)
              (LoopT (σ := Int × Unit) (fun σ2 w3 K2 =>
                  ∀ _ : Env,
                  ∃ (S1 : World → Prop),
                  S1 (World.drew w3) ∧
                  brc (decide (σ2.1 < ((σ1.2.1.len : Nat) : Int)))
                    (((0 : Int) ≤ σ2.1 ∧ σ2.1 < ((σ1.2.1.len : Nat) : Int)) ∧
                      optK σ1.2.1.a fun a2 =>
                        ∃ (s3 : SV),
                        AtS Pr S1 (loadVar 26 (Addr.add a2 (Int.toNat σ2.1 * 1))) (.slice s3.a s3.len s3.cap) ∧
                        ∃ (str1 : ByteArray),
                        AtS Pr S1 (convert 26 9 (.slice s3.a s3.len s3.cap)) (.string str1) ∧
                        ∃ (str2 : ByteArray),
                        AtS Pr S1 (convert 26 9 (.slice s2.a s2.len s2.cap)) (.string str2) ∧
                        brc ((Op.bytesLess (ByteArray.toList str1) (ByteArray.toList str2)))
                          (K2 (IntKind.wrap .i64 (σ2.1 + 1), ()) (World.drew w3))
                          (∃ (S2 : World → Prop),
                            S2 (World.drew (World.drew w3)) ∧
                            brc (decide (σ2.1 < ((σ1.2.1.len : Nat) : Int)))
                              (((0 : Int) ≤ σ2.1 ∧ σ2.1 < ((σ1.2.1.len : Nat) : Int)) ∧
                                optK σ1.2.1.a fun a3 =>
                                  ∃ (s4 : SV),
                                  AtS Pr S2 (loadVar 26 (Addr.add a3 (Int.toNat σ2.1 * 1))) (.slice s4.a s4.len s4.cap) ∧
                                  ∃ (str3 : ByteArray),
                                  AtS Pr S2 (convert 26 9 (.slice s4.a s4.len s4.cap)) (.string str3) ∧
                                  ∃ (str4 : ByteArray),
                                  AtS Pr S2 (convert 26 9 (.slice s2.a s2.len s2.cap)) (.string str4) ∧
                                  brc ((ByteArray.toList str3 == ByteArray.toList str4))
                                    (K1 (IntKind.wrap .i64 (σ1.1 + 1), σ1.2.1, ()) (World.drew (World.drew w3)))
                                    (∃ (S3 : World → Prop),
                                      S3 (World.drew (World.drew (World.drew w3))) ∧
                                      ((0 : Int) ≤ σ2.1 ∧ σ2.1 ≤ ((σ1.2.1.cap : Nat) : Int)) ∧
                                      ((0 : Int) ≤ σ2.1 ∧ σ2.1 ≤ ((σ1.2.1.len : Nat) : Int)) ∧
                                      (∃ (s5 : SV) (w4 : World),
                                      Sem.run Pr (Instr.buildSlice 22 0 #[]) (World.drew (World.drew (World.drew w3))) = .ok (.slice s5.a s5.len s5.cap) w4 ∧
                                      ∃ (S4 : World → Prop),
                                      S4 w4 ∧
                                      (∃ (s6 : SV) (w5 : World),
                                      Sem.run Pr (Builtin.append_ #[22, 22] 22 #[(.slice s5.a s5.len s5.cap), (.slice (cutAt σ1.2.1.a 0 σ1.2.1.cap 1) ((Int.toNat σ2.1) - 0) (σ1.2.1.cap - 0))]) w4 = .ok (.slice s6.a s6.len s6.cap) w5 ∧
                                      ∃ (S5 : World → Prop),
                                      S5 w5 ∧
                                      ∃ (s7 : SV) (w6 : World),
                                      Sem.run Pr (Instr.buildSlice 22 1 #[(0, (.slice s2.a s2.len s2.cap))]) w5 = .ok (.slice s7.a s7.len s7.cap) w6 ∧
                                      ∃ (S6 : World → Prop),
                                      S6 w6 ∧
                                      ∃ (s8 : SV) (w7 : World),
                                      Sem.run Pr (Builtin.append_ #[22, 22] 22 #[(.slice s6.a s6.len s6.cap), (.slice s7.a s7.len s7.cap)]) w6 = .ok (.slice s8.a s8.len s8.cap) w7 ∧
                                      ∃ (S7 : World → Prop),
                                      S7 w7 ∧
                                      ∃ (s9 : SV) (w8 : World),
                                      Sem.run Pr (Builtin.append_ #[22, 22] 22 #[(.slice s8.a s8.len s8.cap), (.slice (cutAt σ1.2.1.a (Int.toNat σ2.1) σ1.2.1.cap 1) (σ1.2.1.len - (Int.toNat σ2.1)) (σ1.2.1.cap - (Int.toNat σ2.1)))]) w7 = .ok (.slice s9.a s9.len s9.cap) w8 ∧
                                      ∃ (S8 : World → Prop),
                                      S8 w8 ∧
                                      K1 (IntKind.wrap .i64 (σ1.1 + 1), s9, ()) w8) ∧
                                      ∃ (s10 : SV) (w9 : World),
                                      Sem.run Pr (Instr.buildSlice 22 1 #[(0, (.slice s2.a s2.len s2.cap))]) w4 = .ok (.slice s10.a s10.len s10.cap) w9 ∧
                                      ∃ (S9 : World → Prop),
                                      S9 w9 ∧
                                      ∃ (s11 : SV) (w10 : World),
                                      Sem.run Pr (Builtin.append_ #[22, 22] 22 #[(.slice s5.a s5.len s5.cap), (.slice (cutAt σ1.2.1.a 0 σ1.2.1.cap 1) ((Int.toNat σ2.1) - 0) (σ1.2.1.cap - 0))]) w9 = .ok (.slice s11.a s11.len s11.cap) w10 ∧
                                      ∃ (S10 : World → Prop),
                                      S10 w10 ∧
                                      ∃ (s12 : SV) (w11 : World),
                                      Sem.run Pr (Builtin.append_ #[22, 22] 22 #[(.slice s11.a s11.len s11.cap), (.slice s10.a s10.len s10.cap)]) w10 = .ok (.slice s12.a s12.len s12.cap) w11 ∧
                                      ∃ (S11 : World → Prop),
                                      S11 w11 ∧
                                      ∃ (s13 : SV) (w12 : World),
                                      Sem.run Pr (Builtin.append_ #[22, 22] 22 #[(.slice s12.a s12.len s12.cap), (.slice (cutAt σ1.2.1.a (Int.toNat σ2.1) σ1.2.1.cap 1) (σ1.2.1.len - (Int.toNat σ2.1)) (σ1.2.1.cap - (Int.toNat σ2.1)))]) w11 = .ok (.slice s13.a s13.len s13.cap) w12 ∧
                                      ∃ (S12 : World → Prop),
                                      S12 w12 ∧
                                      K1 (IntKind.wrap .i64 (σ1.1 + 1), s13, ()) w12) ∧
                                      ∃ (s14 : SV) (w13 : World),
                                      Sem.run Pr (Instr.buildSlice 22 1 #[(0, (.slice s2.a s2.len s2.cap))]) (World.drew (World.drew (World.drew w3))) = .ok (.slice s14.a s14.len s14.cap) w13 ∧
                                      ∃ (S13 : World → Prop),
                                      S13 w13 ∧
                                      ∃ (s15 : SV) (w14 : World),
                                      Sem.run Pr (Instr.buildSlice 22 0 #[]) w13 = .ok (.slice s15.a s15.len s15.cap) w14 ∧
                                      ∃ (S14 : World → Prop),
                                      S14 w14 ∧
                                      ∃ (s16 : SV) (w15 : World),
                                      Sem.run Pr (Builtin.append_ #[22, 22] 22 #[(.slice s15.a s15.len s15.cap), (.slice (cutAt σ1.2.1.a 0 σ1.2.1.cap 1) ((Int.toNat σ2.1) - 0) (σ1.2.1.cap - 0))]) w14 = .ok (.slice s16.a s16.len s16.cap) w15 ∧
                                      ∃ (S15 : World → Prop),
                                      S15 w15 ∧
                                      ∃ (s17 : SV) (w16 : World),
                                      Sem.run Pr (Builtin.append_ #[22, 22] 22 #[(.slice s16.a s16.len s16.cap), (.slice s14.a s14.len s14.cap)]) w15 = .ok (.slice s17.a s17.len s17.cap) w16 ∧
                                      ∃ (S16 : World → Prop),
                                      S16 w16 ∧
                                      ∃ (s18 : SV) (w17 : World),
                                      Sem.run Pr (Builtin.append_ #[22, 22] 22 #[(.slice s17.a s17.len s17.cap), (.slice (cutAt σ1.2.1.a (Int.toNat σ2.1) σ1.2.1.cap 1) (σ1.2.1.len - (Int.toNat σ2.1)) (σ1.2.1.cap - (Int.toNat σ2.1)))]) w16 = .ok (.slice s18.a s18.len s18.cap) w17 ∧
                                      ∃ (S17 : World → Prop),
                                      S17 w17 ∧
                                      K1 (IntKind.wrap .i64 (σ1.1 + 1), s18, ()) w17))
                              (∃ (S18 : World → Prop),
                                S18 (World.drew (World.drew (World.drew w3))) ∧
                                ((0 : Int) ≤ σ2.1 ∧ σ2.1 ≤ ((σ1.2.1.cap : Nat) : Int)) ∧
                                ((0 : Int) ≤ σ2.1 ∧ σ2.1 ≤ ((σ1.2.1.len : Nat) : Int)) ∧
                                (∃ (s19 : SV) (w18 : World),
                                Sem.run Pr (Instr.buildSlice 22 0 #[]) (World.drew (World.drew (World.drew w3))) = .ok (.slice s19.a s19.len s19.cap) w18 ∧
                                ∃ (S19 : World → Prop),
                                S19 w18 ∧
                                (∃ (s20 : SV) (w19 : World),
                                Sem.run Pr (Builtin.append_ #[22, 22] 22 #[(.slice s19.a s19.len s19.cap), (.slice (cutAt σ1.2.1.a 0 σ1.2.1.cap 1) ((Int.toNat σ2.1) - 0) (σ1.2.1.cap - 0))]) w18 = .ok (.slice s20.a s20.len s20.cap) w19 ∧
                                ∃ (S20 : World → Prop),
                                S20 w19 ∧
                                ∃ (s21 : SV) (w20 : World),
                                Sem.run Pr (Instr.buildSlice 22 1 #[(0, (.slice s2.a s2.len s2.cap))]) w19 = .ok (.slice s21.a s21.len s21.cap) w20 ∧
                                ∃ (S21 : World → Prop),
                                S21 w20 ∧
                                ∃ (s22 : SV) (w21 : World),
                                Sem.run Pr (Builtin.append_ #[22, 22] 22 #[(.slice s20.a s20.len s20.cap), (.slice s21.a s21.len s21.cap)]) w20 = .ok (.slice s22.a s22.len s22.cap) w21 ∧
                                ∃ (S22 : World → Prop),
                                S22 w21 ∧
                                ∃ (s23 : SV) (w22 : World),
                                Sem.run Pr (Builtin.append_ #[22, 22] 22 #[(.slice s22.a s22.len s22.cap), (.slice (cutAt σ1.2.1.a (Int.toNat σ2.1) σ1.2.1.cap 1) (σ1.2.1.len - (Int.toNat σ2.1)) (σ1.2.1.cap - (Int.toNat σ2.1)))]) w21 = .ok (.slice s23.a s23.len s23.cap) w22 ∧
                                ∃ (S23 : World → Prop),
                                S23 w22 ∧
                                K1 (IntKind.wrap .i64 (σ1.1 + 1), s23, ()) w22) ∧
                                ∃ (s24 : SV) (w23 : World),
                                Sem.run Pr (Instr.buildSlice 22 1 #[(0, (.slice s2.a s2.len s2.cap))]) w18 = .ok (.slice s24.a s24.len s24.cap) w23 ∧
                                ∃ (S24 : World → Prop),
                                S24 w23 ∧
                                ∃ (s25 : SV) (w24 : World),
                                Sem.run Pr (Builtin.append_ #[22, 22] 22 #[(.slice s19.a s19.len s19.cap), (.slice (cutAt σ1.2.1.a 0 σ1.2.1.cap 1) ((Int.toNat σ2.1) - 0) (σ1.2.1.cap - 0))]) w23 = .ok (.slice s25.a s25.len s25.cap) w24 ∧
                                ∃ (S25 : World → Prop),
                                S25 w24 ∧
                                ∃ (s26 : SV) (w25 : World),
                                Sem.run Pr (Builtin.append_ #[22, 22] 22 #[(.slice s25.a s25.len s25.cap), (.slice s24.a s24.len s24.cap)]) w24 = .ok (.slice s26.a s26.len s26.cap) w25 ∧
                                ∃ (S26 : World → Prop),
                                S26 w25 ∧
                                ∃ (s27 : SV) (w26 : World),
                                Sem.run Pr (Builtin.append_ #[22, 22] 22 #[(.slice s26.a s26.len s26.cap), (.slice (cutAt σ1.2.1.a (Int.toNat σ2.1) σ1.2.1.cap 1) (σ1.2.1.len - (Int.toNat σ2.1)) (σ1.2.1.cap - (Int.toNat σ2.1)))]) w25 = .ok (.slice s27.a s27.len s27.cap) w26 ∧
                                ∃ (S27 : World → Prop),
                                S27 w26 ∧
                                K1 (IntKind.wrap .i64 (σ1.1 + 1), s27, ()) w26) ∧
                                ∃ (s28 : SV) (w27 : World),
                                Sem.run Pr (Instr.buildSlice 22 1 #[(0, (.slice s2.a s2.len s2.cap))]) (World.drew (World.drew (World.drew w3))) = .ok (.slice s28.a s28.len s28.cap) w27 ∧
                                ∃ (S28 : World → Prop),
                                S28 w27 ∧
                                ∃ (s29 : SV) (w28 : World),
                                Sem.run Pr (Instr.buildSlice 22 0 #[]) w27 = .ok (.slice s29.a s29.len s29.cap) w28 ∧
                                ∃ (S29 : World → Prop),
                                S29 w28 ∧
                                ∃ (s30 : SV) (w29 : World),
                                Sem.run Pr (Builtin.append_ #[22, 22] 22 #[(.slice s29.a s29.len s29.cap), (.slice (cutAt σ1.2.1.a 0 σ1.2.1.cap 1) ((Int.toNat σ2.1) - 0) (σ1.2.1.cap - 0))]) w28 = .ok (.slice s30.a s30.len s30.cap) w29 ∧
                                ∃ (S30 : World → Prop),
                                S30 w29 ∧
                                ∃ (s31 : SV) (w30 : World),
                                Sem.run Pr (Builtin.append_ #[22, 22] 22 #[(.slice s30.a s30.len s30.cap), (.slice s28.a s28.len s28.cap)]) w29 = .ok (.slice s31.a s31.len s31.cap) w30 ∧
                                ∃ (S31 : World → Prop),
                                S31 w30 ∧
                                ∃ (s32 : SV) (w31 : World),
                                Sem.run Pr (Builtin.append_ #[22, 22] 22 #[(.slice s31.a s31.len s31.cap), (.slice (cutAt σ1.2.1.a (Int.toNat σ2.1) σ1.2.1.cap 1) (σ1.2.1.len - (Int.toNat σ2.1)) (σ1.2.1.cap - (Int.toNat σ2.1)))]) w30 = .ok (.slice s32.a s32.len s32.cap) w31 ∧
                                ∃ (S32 : World → Prop),
                                S32 w31 ∧
                                K1 (IntKind.wrap .i64 (σ1.1 + 1), s32, ()) w31)))
                    (∃ (S33 : World → Prop),
                      S33 (World.drew (World.drew w3)) ∧
                      brc (decide (σ2.1 < ((σ1.2.1.len : Nat) : Int)))
                        (((0 : Int) ≤ σ2.1 ∧ σ2.1 < ((σ1.2.1.len : Nat) : Int)) ∧
                          optK σ1.2.1.a fun a4 =>
                            ∃ (s33 : SV),
                            AtS Pr S33 (loadVar 26 (Addr.add a4 (Int.toNat σ2.1 * 1))) (.slice s33.a s33.len s33.cap) ∧
                            ∃ (str5 : ByteArray),
                            AtS Pr S33 (convert 26 9 (.slice s33.a s33.len s33.cap)) (.string str5) ∧
                            ∃ (str6 : ByteArray),
                            AtS Pr S33 (convert 26 9 (.slice s2.a s2.len s2.cap)) (.string str6) ∧
                            brc ((ByteArray.toList str5 == ByteArray.toList str6))
                              (K1 (IntKind.wrap .i64 (σ1.1 + 1), σ1.2.1, ()) (World.drew (World.drew w3)))
                              (∃ (S34 : World → Prop),
                                S34 (World.drew (World.drew (World.drew w3))) ∧
                                ((0 : Int) ≤ σ2.1 ∧ σ2.1 ≤ ((σ1.2.1.cap : Nat) : Int)) ∧
                                ((0 : Int) ≤ σ2.1 ∧ σ2.1 ≤ ((σ1.2.1.len : Nat) : Int)) ∧
                                (∃ (s34 : SV) (w32 : World),
                                Sem.run Pr (Instr.buildSlice 22 0 #[]) (World.drew (World.drew (World.drew w3))) = .ok (.slice s34.a s34.len s34.cap) w32 ∧
                                ∃ (S35 : World → Prop),
                                S35 w32 ∧
                                (∃ (s35 : SV) (w33 : World),
                                Sem.run Pr (Builtin.append_ #[22, 22] 22 #[(.slice s34.a s34.len s34.cap), (.slice (cutAt σ1.2.1.a 0 σ1.2.1.cap 1) ((Int.toNat σ2.1) - 0) (σ1.2.1.cap - 0))]) w32 = .ok (.slice s35.a s35.len s35.cap) w33 ∧
                                ∃ (S36 : World → Prop),
                                S36 w33 ∧
                                ∃ (s36 : SV) (w34 : World),
                                Sem.run Pr (Instr.buildSlice 22 1 #[(0, (.slice s2.a s2.len s2.cap))]) w33 = .ok (.slice s36.a s36.len s36.cap) w34 ∧
                                ∃ (S37 : World → Prop),
                                S37 w34 ∧
                                ∃ (s37 : SV) (w35 : World),
                                Sem.run Pr (Builtin.append_ #[22, 22] 22 #[(.slice s35.a s35.len s35.cap), (.slice s36.a s36.len s36.cap)]) w34 = .ok (.slice s37.a s37.len s37.cap) w35 ∧
                                ∃ (S38 : World → Prop),
                                S38 w35 ∧
                                ∃ (s38 : SV) (w36 : World),
                                Sem.run Pr (Builtin.append_ #[22, 22] 22 #[(.slice s37.a s37.len s37.cap), (.slice (cutAt σ1.2.1.a (Int.toNat σ2.1) σ1.2.1.cap 1) (σ1.2.1.len - (Int.toNat σ2.1)) (σ1.2.1.cap - (Int.toNat σ2.1)))]) w35 = .ok (.slice s38.a s38.len s38.cap) w36 ∧
                                ∃ (S39 : World → Prop),
                                S39 w36 ∧
                                K1 (IntKind.wrap .i64 (σ1.1 + 1), s38, ()) w36) ∧
                                ∃ (s39 : SV) (w37 : World),
                                Sem.run Pr (Instr.buildSlice 22 1 #[(0, (.slice s2.a s2.len s2.cap))]) w32 = .ok (.slice s39.a s39.len s39.cap) w37 ∧
                                ∃ (S40 : World → Prop),
                                S40 w37 ∧
                                ∃ (s40 : SV) (w38 : World),
                                Sem.run Pr (Builtin.append_ #[22, 22] 22 #[(.slice s34.a s34.len s34.cap), (.slice (cutAt σ1.2.1.a 0 σ1.2.1.cap 1) ((Int.toNat σ2.1) - 0) (σ1.2.1.cap - 0))]) w37 = .ok (.slice s40.a s40.len s40.cap) w38 ∧
                                ∃ (S41 : World → Prop),
                                S41 w38 ∧
                                ∃ (s41 : SV) (w39 : World),
                                Sem.run Pr (Builtin.append_ #[22, 22] 22 #[(.slice s40.a s40.len s40.cap), (.slice s39.a s39.len s39.cap)]) w38 = .ok (.slice s41.a s41.len s41.cap) w39 ∧
                                ∃ (S42 : World → Prop),
                                S42 w39 ∧
                                ∃ (s42 : SV) (w40 : World),
                                Sem.run Pr (Builtin.append_ #[22, 22] 22 #[(.slice s41.a s41.len s41.cap), (.slice (cutAt σ1.2.1.a (Int.toNat σ2.1) σ1.2.1.cap 1) (σ1.2.1.len - (Int.toNat σ2.1)) (σ1.2.1.cap - (Int.toNat σ2.1)))]) w39 = .ok (.slice s42.a s42.len s42.cap) w40 ∧
                                ∃ (S43 : World → Prop),
                                S43 w40 ∧
                                K1 (IntKind.wrap .i64 (σ1.1 + 1), s42, ()) w40) ∧
                                ∃ (s43 : SV) (w41 : World),
                                Sem.run Pr (Instr.buildSlice 22 1 #[(0, (.slice s2.a s2.len s2.cap))]) (World.drew (World.drew (World.drew w3))) = .ok (.slice s43.a s43.len s43.cap) w41 ∧
                                ∃ (S44 : World → Prop),
                                S44 w41 ∧
                                ∃ (s44 : SV) (w42 : World),
                                Sem.run Pr (Instr.buildSlice 22 0 #[]) w41 = .ok (.slice s44.a s44.len s44.cap) w42 ∧
                                ∃ (S45 : World → Prop),
                                S45 w42 ∧
                                ∃ (s45 : SV) (w43 : World),
                                Sem.run Pr (Builtin.append_ #[22, 22] 22 #[(.slice s44.a s44.len s44.cap), (.slice (cutAt σ1.2.1.a 0 σ1.2.1.cap 1) ((Int.toNat σ2.1) - 0) (σ1.2.1.cap - 0))]) w42 = .ok (.slice s45.a s45.len s45.cap) w43 ∧
                                ∃ (S46 : World → Prop),
                                S46 w43 ∧
                                ∃ (s46 : SV) (w44 : World),
                                Sem.run Pr (Builtin.append_ #[22, 22] 22 #[(.slice s45.a s45.len s45.cap), (.slice s43.a s43.len s43.cap)]) w43 = .ok (.slice s46.a s46.len s46.cap) w44 ∧
                                ∃ (S47 : World → Prop),
                                S47 w44 ∧
                                ∃ (s47 : SV) (w45 : World),
                                Sem.run Pr (Builtin.append_ #[22, 22] 22 #[(.slice s46.a s46.len s46.cap), (.slice (cutAt σ1.2.1.a (Int.toNat σ2.1) σ1.2.1.cap 1) (σ1.2.1.len - (Int.toNat σ2.1)) (σ1.2.1.cap - (Int.toNat σ2.1)))]) w44 = .ok (.slice s47.a s47.len s47.cap) w45 ∧
                                ∃ (S48 : World → Prop),
                                S48 w45 ∧
                                K1 (IntKind.wrap .i64 (σ1.1 + 1), s47, ()) w45))
                        (∃ (S49 : World → Prop),
                          S49 (World.drew (World.drew (World.drew w3))) ∧
                          ((0 : Int) ≤ σ2.1 ∧ σ2.1 ≤ ((σ1.2.1.cap : Nat) : Int)) ∧
                          ((0 : Int) ≤ σ2.1 ∧ σ2.1 ≤ ((σ1.2.1.len : Nat) : Int)) ∧
                          (∃ (s48 : SV) (w46 : World),
                          Sem.run Pr (Instr.buildSlice 22 0 #[]) (World.drew (World.drew (World.drew w3))) = .ok (.slice s48.a s48.len s48.cap) w46 ∧
                          ∃ (S50 : World → Prop),
                          S50 w46 ∧
                          (∃ (s49 : SV) (w47 : World),
                          Sem.run Pr (Builtin.append_ #[22, 22] 22 #[(.slice s48.a s48.len s48.cap), (.slice (cutAt σ1.2.1.a 0 σ1.2.1.cap 1) ((Int.toNat σ2.1) - 0) (σ1.2.1.cap - 0))]) w46 = .ok (.slice s49.a s49.len s49.cap) w47 ∧
                          ∃ (S51 : World → Prop),
                          S51 w47 ∧
                          ∃ (s50 : SV) (w48 : World),
                          Sem.run Pr (Instr.buildSlice 22 1 #[(0, (.slice s2.a s2.len s2.cap))]) w47 = .ok (.slice s50.a s50.len s50.cap) w48 ∧
                          ∃ (S52 : World → Prop),
                          S52 w48 ∧
                          ∃ (s51 : SV) (w49 : World),
                          Sem.run Pr (Builtin.append_ #[22, 22] 22 #[(.slice s49.a s49.len s49.cap), (.slice s50.a s50.len s50.cap)]) w48 = .ok (.slice s51.a s51.len s51.cap) w49 ∧
                          ∃ (S53 : World → Prop),
                          S53 w49 ∧
                          ∃ (s52 : SV) (w50 : World),
                          Sem.run Pr (Builtin.append_ #[22, 22] 22 #[(.slice s51.a s51.len s51.cap), (.slice (cutAt σ1.2.1.a (Int.toNat σ2.1) σ1.2.1.cap 1) (σ1.2.1.len - (Int.toNat σ2.1)) (σ1.2.1.cap - (Int.toNat σ2.1)))]) w49 = .ok (.slice s52.a s52.len s52.cap) w50 ∧
                          ∃ (S54 : World → Prop),
                          S54 w50 ∧
                          K1 (IntKind.wrap .i64 (σ1.1 + 1), s52, ()) w50) ∧
                          ∃ (s53 : SV) (w51 : World),
                          Sem.run Pr (Instr.buildSlice 22 1 #[(0, (.slice s2.a s2.len s2.cap))]) w46 = .ok (.slice s53.a s53.len s53.cap) w51 ∧
                          ∃ (S55 : World → Prop),
                          S55 w51 ∧
                          ∃ (s54 : SV) (w52 : World),
                          Sem.run Pr (Builtin.append_ #[22, 22] 22 #[(.slice s48.a s48.len s48.cap), (.slice (cutAt σ1.2.1.a 0 σ1.2.1.cap 1) ((Int.toNat σ2.1) - 0) (σ1.2.1.cap - 0))]) w51 = .ok (.slice s54.a s54.len s54.cap) w52 ∧
                          ∃ (S56 : World → Prop),
                          S56 w52 ∧
                          ∃ (s55 : SV) (w53 : World),
                          Sem.run Pr (Builtin.append_ #[22, 22] 22 #[(.slice s54.a s54.len s54.cap), (.slice s53.a s53.len s53.cap)]) w52 = .ok (.slice s55.a s55.len s55.cap) w53 ∧
                          ∃ (S57 : World → Prop),
                          S57 w53 ∧
                          ∃ (s56 : SV) (w54 : World),
                          Sem.run Pr (Builtin.append_ #[22, 22] 22 #[(.slice s55.a s55.len s55.cap), (.slice (cutAt σ1.2.1.a (Int.toNat σ2.1) σ1.2.1.cap 1) (σ1.2.1.len - (Int.toNat σ2.1)) (σ1.2.1.cap - (Int.toNat σ2.1)))]) w53 = .ok (.slice s56.a s56.len s56.cap) w54 ∧
                          ∃ (S58 : World → Prop),
                          S58 w54 ∧
                          K1 (IntKind.wrap .i64 (σ1.1 + 1), s56, ()) w54) ∧
                          ∃ (s57 : SV) (w55 : World),
                          Sem.run Pr (Instr.buildSlice 22 1 #[(0, (.slice s2.a s2.len s2.cap))]) (World.drew (World.drew (World.drew w3))) = .ok (.slice s57.a s57.len s57.cap) w55 ∧
                          ∃ (S59 : World → Prop),
                          S59 w55 ∧
                          ∃ (s58 : SV) (w56 : World),
                          Sem.run Pr (Instr.buildSlice 22 0 #[]) w55 = .ok (.slice s58.a s58.len s58.cap) w56 ∧
                          ∃ (S60 : World → Prop),
                          S60 w56 ∧
                          ∃ (s59 : SV) (w57 : World),
                          Sem.run Pr (Builtin.append_ #[22, 22] 22 #[(.slice s58.a s58.len s58.cap), (.slice (cutAt σ1.2.1.a 0 σ1.2.1.cap 1) ((Int.toNat σ2.1) - 0) (σ1.2.1.cap - 0))]) w56 = .ok (.slice s59.a s59.len s59.cap) w57 ∧
                          ∃ (S61 : World → Prop),
                          S61 w57 ∧
                          ∃ (s60 : SV) (w58 : World),
                          Sem.run Pr (Builtin.append_ #[22, 22] 22 #[(.slice s59.a s59.len s59.cap), (.slice s57.a s57.len s57.cap)]) w57 = .ok (.slice s60.a s60.len s60.cap) w58 ∧
                          ∃ (S62 : World → Prop),
                          S62 w58 ∧
                          ∃ (s61 : SV) (w59 : World),
                          Sem.run Pr (Builtin.append_ #[22, 22] 22 #[(.slice s60.a s60.len s60.cap), (.slice (cutAt σ1.2.1.a (Int.toNat σ2.1) σ1.2.1.cap 1) (σ1.2.1.len - (Int.toNat σ2.1)) (σ1.2.1.cap - (Int.toNat σ2.1)))]) w58 = .ok (.slice s61.a s61.len s61.cap) w59 ∧
                          ∃ (S63 : World → Prop),
                          S63 w59 ∧
                          K1 (IntKind.wrap .i64 (σ1.1 + 1), s61, ()) w59))) (0, ()) w2))
        (R (.slice σ1.2.1.a σ1.2.1.len σ1.2.1.cap) w2)) (0, SV.mk none 0 0, ()) w1

theorem call26 {x0 : SV} {w0 : World} {R : Ending → World → Prop} (h : ir26 x0 w0 fun v w => R (.returned v) w) : Calls Pr 26 #[.slice x0.a x0.len x0.cap] w0 R := by
  refine calls_of_vc (ann := [(3, [(10, .int .i64), (3, .slice)]), (7, [(6, .int .i64)])]) (E := []) (args := [.slice x0.a x0.len x0.cap]) follows Try.func26 rfl (by kernel_rfl) ?_
  apply by_eq h
  kernel_rfl

/-- creel/run.All -/
def ir29 (x0 : SV) (w0 : World) (R : Value → World → Prop) : Prop :=
  ∃ (a1 : Addr) (w1 : World),
  Sem.run Pr (Instr.box 26 (.slice x0.a x0.len x0.cap)) w0 = .ok (.pointer (some a1)) w1 ∧
  R (.func (.func 89) #[] #[(.pointer (some a1))]) w1

theorem call29 {x0 : SV} {w0 : World} {R : Ending → World → Prop} (h : ir29 x0 w0 fun v w => R (.returned v) w) : Calls Pr 29 #[.slice x0.a x0.len x0.cap] w0 R := by
  refine calls_of_vc (ann := []) (E := []) (args := [.slice x0.a x0.len x0.cap]) follows Try.func29 rfl (by kernel_rfl) ?_
  apply by_eq h
  kernel_rfl

/-- creel/creelref03.Same -/
def ir30 (x0 : SV) (x1 : SV) (w0 : World) (R : Value → World → Prop) : Prop :=
  brc (((x0.len : Nat) : Int) != ((x1.len : Nat) : Int))
    (R (.bool false) w0)
    (LoopT (σ := Int × Unit) (fun σ1 w1 K1 =>
        ∀ _ : Env,
        brc (decide (σ1.1 < ((x0.len : Nat) : Int)))
          (∃ (S1 : World → Prop),
            S1 (World.drew w1) ∧
            ((0 : Int) ≤ σ1.1 ∧ σ1.1 < ((x0.len : Nat) : Int)) ∧
            optK x0.a fun a1 =>
              ∃ (s1 : SV),
              AtS Pr S1 (loadVar 26 (Addr.add a1 (Int.toNat σ1.1 * 1))) (.slice s1.a s1.len s1.cap) ∧
              ∃ (str1 : ByteArray),
              AtS Pr S1 (convert 26 9 (.slice s1.a s1.len s1.cap)) (.string str1) ∧
              ((0 : Int) ≤ σ1.1 ∧ σ1.1 < ((x1.len : Nat) : Int)) ∧
              optK x1.a fun a2 =>
                ∃ (s2 : SV),
                AtS Pr S1 (loadVar 26 (Addr.add a2 (Int.toNat σ1.1 * 1))) (.slice s2.a s2.len s2.cap) ∧
                ∃ (str2 : ByteArray),
                AtS Pr S1 (convert 26 9 (.slice s2.a s2.len s2.cap)) (.string str2) ∧
                brc (!(ByteArray.toList str1 == ByteArray.toList str2))
                  (R (.bool false) (World.drew w1))
                  (K1 (IntKind.wrap .i64 (σ1.1 + 1), ()) (World.drew w1)))
          (R (.bool true) w1)) (0, ()) w0)

theorem call30 {x0 : SV} {x1 : SV} {w0 : World} {R : Ending → World → Prop} (h : ir30 x0 x1 w0 fun v w => R (.returned v) w) : Calls Pr 30 #[.slice x0.a x0.len x0.cap, .slice x1.a x1.len x1.cap] w0 R := by
  refine calls_of_vc (ann := [(4, [(5, .int .i64)])]) (E := []) (args := [.slice x0.a x0.len x0.cap, .slice x1.a x1.len x1.cap]) follows Try.func30 rfl (by kernel_rfl) ?_
  apply by_eq h
  kernel_rfl

/-- creel/creelref13.List -/
def ir31 (x0 : SV) (w0 : World) (R : Value → World → Prop) : Prop :=
  Calls Pr 90 #[(.slice x0.a x0.len x0.cap)] w0 fun e1 w1 =>
    ∃ (s1 : SV) (n1 : Int),
    e1 = .returned (.tuple #[(.slice s1.a s1.len s1.cap), (.int .i64 n1)]) ∧
    LoopT (σ := Int × SV × Unit) (fun σ1 w2 K1 =>
      ∀ _ : Env,
      brc (decide (σ1.1 < ((s1.len : Nat) : Int)))
        (∃ (S1 : World → Prop),
          S1 (World.drew w2) ∧
          ((0 : Int) ≤ σ1.1 ∧ σ1.1 < ((s1.len : Nat) : Int)) ∧
          optK s1.a fun a1 =>
            ∃ (s2 : SV),
            AtS Pr S1 (loadVar 26 (Addr.add a1 (Int.toNat σ1.1 * 1))) (.slice s2.a s2.len s2.cap) ∧
            brc (decide (((s2.len : Nat) : Int) > (64 : Int)))
              (∃ (s3 : SV) (w3 : World),
                Sem.run Pr (Instr.buildSlice 52 1 #[(0, (.agg #[(.slice none 0 0), (.int .i64 6)]))]) (World.drew w2) = .ok (.slice s3.a s3.len s3.cap) w3 ∧
                ∃ (s4 : SV) (w4 : World),
                Sem.run Pr (Builtin.append_ #[52, 52] 52 #[(.slice σ1.2.1.a σ1.2.1.len σ1.2.1.cap), (.slice s3.a s3.len s3.cap)]) w3 = .ok (.slice s4.a s4.len s4.cap) w4 ∧
                R (.slice s4.a s4.len s4.cap) w4)
              (brc (decide (σ1.1 > (0 : Int)))
                  (((0 : Int) ≤ (IntKind.wrap .i64 (σ1.1 - 1)) ∧ (IntKind.wrap .i64 (σ1.1 - 1)) < ((s1.len : Nat) : Int)) ∧
                    optK s1.a fun a2 =>
                      ∃ (s5 : SV),
                      AtS Pr S1 (loadVar 26 (Addr.add a2 (Int.toNat (IntKind.wrap .i64 (σ1.1 - 1)) * 1))) (.slice s5.a s5.len s5.cap) ∧
                      ∃ (str1 : ByteArray),
                      AtS Pr S1 (convert 26 9 (.slice s5.a s5.len s5.cap)) (.string str1) ∧
                      ((0 : Int) ≤ σ1.1 ∧ σ1.1 < ((s1.len : Nat) : Int)) ∧
                      optK s1.a fun a3 =>
                        ∃ (s6 : SV),
                        AtS Pr S1 (loadVar 26 (Addr.add a3 (Int.toNat σ1.1 * 1))) (.slice s6.a s6.len s6.cap) ∧
                        ∃ (str2 : ByteArray),
                        AtS Pr S1 (convert 26 9 (.slice s6.a s6.len s6.cap)) (.string str2) ∧
                        brc (!(Op.bytesLess (ByteArray.toList str1) (ByteArray.toList str2)))
                          (∃ (s7 : SV) (w5 : World),
                            Sem.run Pr (Instr.buildSlice 52 1 #[(0, (.agg #[(.slice none 0 0), (.int .i64 6)]))]) (World.drew w2) = .ok (.slice s7.a s7.len s7.cap) w5 ∧
                            ∃ (s8 : SV) (w6 : World),
                            Sem.run Pr (Builtin.append_ #[52, 52] 52 #[(.slice σ1.2.1.a σ1.2.1.len σ1.2.1.cap), (.slice s7.a s7.len s7.cap)]) w5 = .ok (.slice s8.a s8.len s8.cap) w6 ∧
                            R (.slice s8.a s8.len s8.cap) w6)
                          (((0 : Int) ≤ σ1.1 ∧ σ1.1 < ((s1.len : Nat) : Int)) ∧
                            optK s1.a fun a4 =>
                              ∃ (s9 : SV),
                              At Pr (World.drew w2) (loadVar 26 (Addr.add a4 (Int.toNat σ1.1 * 1))) (.slice s9.a s9.len s9.cap) ∧
                              ∃ (s10 : SV) (w7 : World),
                              Sem.run Pr (Instr.buildSlice 52 1 #[(0, (.agg #[(.slice s9.a s9.len s9.cap), (.int .i64 0)]))]) (World.drew w2) = .ok (.slice s10.a s10.len s10.cap) w7 ∧
                              ∃ (s11 : SV) (w8 : World),
                              Sem.run Pr (Builtin.append_ #[52, 52] 52 #[(.slice σ1.2.1.a σ1.2.1.len σ1.2.1.cap), (.slice s10.a s10.len s10.cap)]) w7 = .ok (.slice s11.a s11.len s11.cap) w8 ∧
                              K1 (IntKind.wrap .i64 (σ1.1 + 1), s11, ()) w8))
                  (((0 : Int) ≤ σ1.1 ∧ σ1.1 < ((s1.len : Nat) : Int)) ∧
                    optK s1.a fun a5 =>
                      ∃ (s12 : SV),
                      At Pr (World.drew w2) (loadVar 26 (Addr.add a5 (Int.toNat σ1.1 * 1))) (.slice s12.a s12.len s12.cap) ∧
                      ∃ (s13 : SV) (w9 : World),
                      Sem.run Pr (Instr.buildSlice 52 1 #[(0, (.agg #[(.slice s12.a s12.len s12.cap), (.int .i64 0)]))]) (World.drew w2) = .ok (.slice s13.a s13.len s13.cap) w9 ∧
                      ∃ (s14 : SV) (w10 : World),
                      Sem.run Pr (Builtin.append_ #[52, 52] 52 #[(.slice σ1.2.1.a σ1.2.1.len σ1.2.1.cap), (.slice s13.a s13.len s13.cap)]) w9 = .ok (.slice s14.a s14.len s14.cap) w10 ∧
                      K1 (IntKind.wrap .i64 (σ1.1 + 1), s14, ()) w10)))
        (brc (decide (n1 < ((x0.len : Nat) : Int)))
            (∃ (s15 : SV) (w11 : World),
              Sem.run Pr (Instr.buildSlice 52 1 #[(0, (.agg #[(.slice none 0 0), (.int .i64 6)]))]) w2 = .ok (.slice s15.a s15.len s15.cap) w11 ∧
              ∃ (s16 : SV) (w12 : World),
              Sem.run Pr (Builtin.append_ #[52, 52] 52 #[(.slice σ1.2.1.a σ1.2.1.len σ1.2.1.cap), (.slice s15.a s15.len s15.cap)]) w11 = .ok (.slice s16.a s16.len s16.cap) w12 ∧
              R (.slice s16.a s16.len s16.cap) w12)
            (R (.slice σ1.2.1.a σ1.2.1.len σ1.2.1.cap) w2))) (0, SV.mk none 0 0, ()) w1

theorem call31 {x0 : SV} {w0 : World} {R : Ending → World → Prop} (h : ir31 x0 w0 fun v w => R (.returned v) w) : Calls Pr 31 #[.slice x0.a x0.len x0.cap] w0 R := by
  refine calls_of_vc (ann := [(4, [(6, .int .i64), (3, .slice)])]) (E := []) (args := [.slice x0.a x0.len x0.cap]) follows Try.func31 rfl (by kernel_rfl) ?_
  apply by_eq h
  kernel_rfl

/-- creel/run.Open -/
def ir34 (x0 : Option Addr) (x1 : ByteArray) (w0 : World) (R : Value → World → Prop) : Prop :=
  Calls Pr 28 #[(.pointer x0), (.string x1)] w0 fun e1 w1 =>
    ∃ (s1 : SV) (n1 : Int),
    e1 = .returned (.tuple #[(.slice s1.a s1.len s1.cap), (.int .i64 n1)]) ∧
    brc (n1 != (0 : Int))
      (R (.tuple #[(.pointer none), (.int .i64 n1)]) w1)
      (∃ (a1 : Addr) (w2 : World),
        Sem.run Pr (Instr.box 130 (.agg #[(.slice s1.a s1.len s1.cap), (.slice none 0 0), (.bool false), (.bool false)])) w1 = .ok (.pointer (some a1)) w2 ∧
        R (.tuple #[(.pointer (some a1)), (.int .i64 0)]) w2)

theorem call34 {x0 : Option Addr} {x1 : ByteArray} {w0 : World} {R : Ending → World → Prop} (h : ir34 x0 x1 w0 fun v w => R (.returned v) w) : Calls Pr 34 #[.pointer x0, .string x1] w0 R := by
  refine calls_of_vc (ann := []) (E := []) (args := [.pointer x0, .string x1]) follows Try.func34 rfl (by kernel_rfl) ?_
  apply by_eq h
  kernel_rfl

/-- creel/creellaw04.did -/
def ir39 (x0 : Option Addr) (x1_Kind : Int) (x1_Name : ByteArray) (x1_To : ByteArray) (x1_B : SV) (x1_N : Int) (x1_W_Names : Int) (x1_W_Bytes : SV) (w0 : World) (R : Value → World → Prop) : Prop :=
  ∃ (a1 : Addr) (w1 : World),
  Sem.run Pr (Instr.box 68 (.agg #[(.int .u8 x1_Kind), (.string x1_Name), (.string x1_To), (.slice x1_B.a x1_B.len x1_B.cap), (.int .i64 x1_N), (.int .i64 x1_W_Names), (.slice x1_W_Bytes.a x1_W_Bytes.len x1_W_Bytes.cap)])) w0 = .ok (.pointer (some a1)) w1 ∧
  ∃ (n1 : Int),
  At Pr w1 (loadVar 5 (Addr.add a1 0)) (.int .u8 n1) ∧
  (13 : Int) ≠ 0 ∧
  brc ((Int.tmod n1 13) == (0 : Int))
    (∃ (str1 : ByteArray),
      At Pr w1 (loadVar 9 (Addr.add a1 1)) (.string str1) ∧
      Calls Pr 96 #[(.pointer x0), (.string str1)] w1 fun e1 w2 =>
        ∃ (n2 : Int),
        e1 = .returned (.int .i64 n2) ∧
        R (.int .i64 n2) w2)
    (brc ((Int.tmod n1 13) == (4 : Int))
        (∃ (str2 : ByteArray),
          At Pr w1 (loadVar 9 (Addr.add a1 1)) (.string str2) ∧
          Calls Pr 64 #[(.pointer x0), (.string str2)] w1 fun e2 w3 =>
            ∃ (s1 : SV) (n3 : Int),
            e2 = .returned (.tuple #[(.slice s1.a s1.len s1.cap), (.int .i64 n3)]) ∧
            R (.int .i64 n3) w3)
        (brc ((Int.tmod n1 13) == (5 : Int))
            (∃ (str3 : ByteArray),
              At Pr w1 (loadVar 9 (Addr.add a1 1)) (.string str3) ∧
              Calls Pr 97 #[(.pointer x0), (.string str3)] w1 fun e3 w4 =>
                ∃ (n4 : Int),
                e3 = .returned (.int .i64 n4) ∧
                R (.int .i64 n4) w4)
            (brc ((Int.tmod n1 13) == (6 : Int))
                (∃ (str4 : ByteArray),
                  At Pr w1 (loadVar 9 (Addr.add a1 1)) (.string str4) ∧
                  ∃ (str5 : ByteArray),
                  At Pr w1 (loadVar 9 (Addr.add a1 2)) (.string str5) ∧
                  Calls Pr 98 #[(.pointer x0), (.string str4), (.string str5)] w1 fun e4 w5 =>
                    ∃ (n5 : Int),
                    e4 = .returned (.int .i64 n5) ∧
                    R (.int .i64 n5) w5)
                (brc ((Int.tmod n1 13) == (7 : Int))
                    (∃ (str6 : ByteArray),
                      At Pr w1 (loadVar 9 (Addr.add a1 1)) (.string str6) ∧
                      Calls Pr 99 #[(.pointer x0), (.string str6)] w1 fun e5 w6 =>
                        ∃ (n6 : Int),
                        e5 = .returned (.int .i64 n6) ∧
                        R (.int .i64 n6) w6)
                    (brc ((Int.tmod n1 13) == (8 : Int))
                        (Calls Pr 100 #[(.pointer x0)] w1 fun e6 w7 =>
                            ∃ (n7 : Int),
                            e6 = .returned (.int .i64 n7) ∧
                            R (.int .i64 n7) w7)
                        (brc ((Int.tmod n1 13) == (9 : Int))
                            (Calls Pr 101 #[(.pointer x0)] w1 fun e7 w8 =>
                                ∃ (s2 : SV) (n8 : Int),
                                e7 = .returned (.tuple #[(.slice s2.a s2.len s2.cap), (.int .i64 n8)]) ∧
                                R (.int .i64 n8) w8)
                            (brc ((Int.tmod n1 13) == (10 : Int))
                                (∃ (n9 : Int),
                                  At Pr w1 (loadVar 3 (Addr.add a1 4)) (.int .i64 n9) ∧
                                  Calls Pr 59 #[(.pointer x0), (.int .i64 n9)] w1 fun e8 w9 =>
                                    ∃ (n10 : Int),
                                    e8 = .returned (.int .i64 n10) ∧
                                    R (.int .i64 n10) w9)
                                (brc ((Int.tmod n1 13) == (11 : Int))
                                    (∃ (n11 : Int) (s3 : SV),
                                      At Pr w1 (loadVar 63 (Addr.add a1 5)) (.agg #[(.int .i64 n11), (.slice s3.a s3.len s3.cap)]) ∧
                                      Calls Pr 46 #[(.pointer x0), (.agg #[(.int .i64 n11), (.slice s3.a s3.len s3.cap)])] w1 fun e9 w10 =>
                                        ∃ (n12 : Int),
                                        e9 = .returned (.int .i64 n12) ∧
                                        R (.int .i64 n12) w10)
                                    (brc ((Int.tmod n1 13) == (12 : Int))
                                        (∃ (n13 : Int),
                                          At Pr w1 (loadVar 3 (Addr.add a1 4)) (.int .i64 n13) ∧
                                          Calls Pr 102 #[(.pointer x0), (.int .i64 n13)] w1 fun e10 w11 =>
                                            ∃ (n14 : Int),
                                            e10 = .returned (.int .i64 n14) ∧
                                            R (.int .i64 n14) w11)
                                        (∃ (str7 : ByteArray),
                                          At Pr w1 (loadVar 9 (Addr.add a1 1)) (.string str7) ∧
                                          ∃ (s4 : SV),
                                          At Pr w1 (loadVar 26 (Addr.add a1 3)) (.slice s4.a s4.len s4.cap) ∧
                                          Calls Pr 103 #[(.pointer x0), (.string str7), (.slice s4.a s4.len s4.cap)] w1 fun e11 w12 =>
                                            ∃ (n15 : Int),
                                            e11 = .returned (.int .i64 n15) ∧
                                            R (.int .i64 n15) w12))))))))))

theorem call39 {x0 : Option Addr} {x1_Kind : Int} {x1_Name : ByteArray} {x1_To : ByteArray} {x1_B : SV} {x1_N : Int} {x1_W_Names : Int} {x1_W_Bytes : SV} {w0 : World} {R : Ending → World → Prop} (h : ir39 x0 x1_Kind x1_Name x1_To x1_B x1_N x1_W_Names x1_W_Bytes w0 fun v w => R (.returned v) w) : Calls Pr 39 #[.pointer x0, .agg #[(.int .u8 x1_Kind), (.string x1_Name), (.string x1_To), (.slice x1_B.a x1_B.len x1_B.cap), (.int .i64 x1_N), (.int .i64 x1_W_Names), (.slice x1_W_Bytes.a x1_W_Bytes.len x1_W_Bytes.cap)]] w0 R := by
  refine calls_of_vc (ann := []) (E := []) (args := [.pointer x0, .agg #[(.int .u8 x1_Kind), (.string x1_Name), (.string x1_To), (.slice x1_B.a x1_B.len x1_B.cap), (.int .i64 x1_N), (.int .i64 x1_W_Names), (.slice x1_W_Bytes.a x1_W_Bytes.len x1_W_Bytes.cap)]]) follows Try.func39 rfl (by kernel_rfl) ?_
  apply by_eq h
  kernel_rfl

/-- creel/creellaw13.few -/
def ir61 (x0 : SV) (w0 : World) (R : Value → World → Prop) : Prop :=
  LoopT (σ := Int × SV × Unit) (fun σ1 w1 K1 =>
    ∀ _ : Env,
    brc (decide (σ1.1 < ((x0.len : Nat) : Int)))
      (((0 : Int) ≤ σ1.1 ∧ σ1.1 < ((x0.len : Nat) : Int)) ∧
        optK x0.a fun a1 =>
          ∃ (s1 : SV),
          At Pr w1 (loadVar 26 (Addr.add a1 (Int.toNat σ1.1 * 1))) (.slice s1.a s1.len s1.cap) ∧
          brc (decide (σ1.1 < (60 : Int)))
            (brc (decide (((s1.len : Nat) : Int) ≤ (80 : Int)))
                (∃ (s2 : SV) (w2 : World),
                  Sem.run Pr (Instr.buildSlice 22 1 #[(0, (.slice s1.a s1.len s1.cap))]) w1 = .ok (.slice s2.a s2.len s2.cap) w2 ∧
                  ∃ (s3 : SV) (w3 : World),
                  Sem.run Pr (Builtin.append_ #[22, 22] 22 #[(.slice σ1.2.1.a σ1.2.1.len σ1.2.1.cap), (.slice s2.a s2.len s2.cap)]) w2 = .ok (.slice s3.a s3.len s3.cap) w3 ∧
                  K1 (IntKind.wrap .i64 (σ1.1 + 1), s3, ()) w3)
                (K1 (IntKind.wrap .i64 (σ1.1 + 1), σ1.2.1, ()) w1))
            (K1 (IntKind.wrap .i64 (σ1.1 + 1), σ1.2.1, ()) w1))
      (R (.slice σ1.2.1.a σ1.2.1.len σ1.2.1.cap) w1)) (0, SV.mk none 0 0, ()) w0

theorem call61 {x0 : SV} {w0 : World} {R : Ending → World → Prop} (h : ir61 x0 w0 fun v w => R (.returned v) w) : Calls Pr 61 #[.slice x0.a x0.len x0.cap] w0 R := by
  refine calls_of_vc (ann := [(3, [(8, .int .i64), (3, .slice)])]) (E := []) (args := [.slice x0.a x0.len x0.cap]) follows Try.func61 rfl (by kernel_rfl) ?_
  apply by_eq h
  kernel_rfl

/-- (*creel/creelref13.Writer).Add -/
def ir62 (x0 : Option Addr) (x1 : SV) (w0 : World) (R : Value → World → Prop) : Prop :=
  brc (decide (((x1.len : Nat) : Int) > (64 : Int)))
    (R (.int .i64 3) w0)
    (∃ (S1 : World → Prop),
      S1 (World.drew w0) ∧
      optK x0 fun a1 =>
        ∃ (s1 : SV),
        AtS Pr S1 (loadVar 22 (Addr.add a1 1)) (.slice s1.a s1.len s1.cap) ∧
        brc (decide (((s1.len : Nat) : Int) > (0 : Int)))
          (optK x0 fun a2 =>
              ∃ (s2 : SV),
              AtS Pr S1 (loadVar 22 (Addr.add a2 1)) (.slice s2.a s2.len s2.cap) ∧
              optK x0 fun a3 =>
                ∃ (s3 : SV),
                AtS Pr S1 (loadVar 22 (Addr.add a3 1)) (.slice s3.a s3.len s3.cap) ∧
                ((0 : Int) ≤ (IntKind.wrap .i64 (((s3.len : Nat) : Int) - 1)) ∧ (IntKind.wrap .i64 (((s3.len : Nat) : Int) - 1)) < ((s2.len : Nat) : Int)) ∧
                optK s2.a fun a4 =>
                  ∃ (s4 : SV),
                  AtS Pr S1 (loadVar 26 (Addr.add a4 (Int.toNat (IntKind.wrap .i64 (((s3.len : Nat) : Int) - 1)) * 1))) (.slice s4.a s4.len s4.cap) ∧
                  ∃ (str1 : ByteArray),
                  AtS Pr S1 (convert 26 9 (.slice s4.a s4.len s4.cap)) (.string str1) ∧
                  ∃ (str2 : ByteArray),
                  AtS Pr S1 (convert 26 9 (.slice x1.a x1.len x1.cap)) (.string str2) ∧
                  brc (!(Op.bytesLess (ByteArray.toList str1) (ByteArray.toList str2)))
                    (R (.int .i64 130) (World.drew w0))
                    (Calls Pr 70 #[(.slice none 0 0), (.slice x1.a x1.len x1.cap)] (World.drew w0) fun e1 w1 =>
                        ∃ (s5 : SV) (n1 : Int),
                        e1 = .returned (.tuple #[(.slice s5.a s5.len s5.cap), (.int .i64 n1)]) ∧
                        optK x0 fun a5 =>
                          ∃ (p1 : Option Addr),
                          At Pr w1 (loadVar 64 (Addr.add a5 0)) (.pointer p1) ∧
                          Calls Pr 103 #[(.pointer p1), (.string (⟨#[116, 109, 112]⟩ : ByteArray)), (.slice s5.a s5.len s5.cap)] w1 fun e2 w2 =>
                            ∃ (n2 : Int),
                            e2 = .returned (.int .i64 n2) ∧
                            brc (n2 == (0 : Int))
                              (∃ (S2 : World → Prop),
                                S2 (World.drew w2) ∧
                                optK x0 fun a6 =>
                                  ∃ (s6 : SV),
                                  AtS Pr S2 (loadVar 22 (Addr.add a6 1)) (.slice s6.a s6.len s6.cap) ∧
                                  ∃ (s7 : SV) (w3 : World),
                                  Sem.run Pr (Instr.buildSlice 26 0 #[]) (World.drew w2) = .ok (.slice s7.a s7.len s7.cap) w3 ∧
                                  ∃ (S3 : World → Prop),
                                  (∀ w, S3 w → S2 w) ∧
                                  S3 w3 ∧
                                  ∃ (s8 : SV) (w4 : World),
                                  Sem.run Pr (Builtin.append_ #[26, 26] 26 #[(.slice s7.a s7.len s7.cap), (.slice x1.a x1.len x1.cap)]) w3 = .ok (.slice s8.a s8.len s8.cap) w4 ∧
                                  ∃ (S4 : World → Prop),
                                  (∀ w, S4 w → S3 w) ∧
                                  S4 w4 ∧
                                  ∃ (s9 : SV) (w5 : World),
                                  Sem.run Pr (Instr.buildSlice 22 1 #[(0, (.slice s8.a s8.len s8.cap))]) w4 = .ok (.slice s9.a s9.len s9.cap) w5 ∧
                                  ∃ (S5 : World → Prop),
                                  (∀ w, S5 w → S4 w) ∧
                                  S5 w5 ∧
                                  ∃ (s10 : SV) (w6 : World),
                                  Sem.run Pr (Builtin.append_ #[22, 22] 22 #[(.slice s6.a s6.len s6.cap), (.slice s9.a s9.len s9.cap)]) w5 = .ok (.slice s10.a s10.len s10.cap) w6 ∧
                                  ∃ (S6 : World → Prop),
                                  S6 w6 ∧
                                  optK x0 fun a7 =>
                                    ∃ (w7 : World),
                                    Sem.run Pr (Instr.storeAt 22 (.pointer (some (Addr.add a7 1))) (.slice s10.a s10.len s10.cap)) w6 = .ok () w7 ∧
                                    ∃ (S7 : World → Prop),
                                    S7 w7 ∧
                                    R (.int .i64 n2) w7)
                              (R (.int .i64 n2) w2)))
          (Calls Pr 70 #[(.slice none 0 0), (.slice x1.a x1.len x1.cap)] (World.drew w0) fun e3 w8 =>
              ∃ (s11 : SV) (n3 : Int),
              e3 = .returned (.tuple #[(.slice s11.a s11.len s11.cap), (.int .i64 n3)]) ∧
              optK x0 fun a8 =>
                ∃ (p2 : Option Addr),
                At Pr w8 (loadVar 64 (Addr.add a8 0)) (.pointer p2) ∧
                Calls Pr 103 #[(.pointer p2), (.string (⟨#[116, 109, 112]⟩ : ByteArray)), (.slice s11.a s11.len s11.cap)] w8 fun e4 w9 =>
                  ∃ (n4 : Int),
                  e4 = .returned (.int .i64 n4) ∧
                  brc (n4 == (0 : Int))
                    (∃ (S8 : World → Prop),
                      S8 (World.drew w9) ∧
                      optK x0 fun a9 =>
                        ∃ (s12 : SV),
                        AtS Pr S8 (loadVar 22 (Addr.add a9 1)) (.slice s12.a s12.len s12.cap) ∧
                        ∃ (s13 : SV) (w10 : World),
                        Sem.run Pr (Instr.buildSlice 26 0 #[]) (World.drew w9) = .ok (.slice s13.a s13.len s13.cap) w10 ∧
                        ∃ (S9 : World → Prop),
                        (∀ w, S9 w → S8 w) ∧
                        S9 w10 ∧
                        ∃ (s14 : SV) (w11 : World),
                        Sem.run Pr (Builtin.append_ #[26, 26] 26 #[(.slice s13.a s13.len s13.cap), (.slice x1.a x1.len x1.cap)]) w10 = .ok (.slice s14.a s14.len s14.cap) w11 ∧
                        ∃ (S10 : World → Prop),
                        (∀ w, S10 w → S9 w) ∧
                        S10 w11 ∧
                        ∃ (s15 : SV) (w12 : World),
                        Sem.run Pr (Instr.buildSlice 22 1 #[(0, (.slice s14.a s14.len s14.cap))]) w11 = .ok (.slice s15.a s15.len s15.cap) w12 ∧
                        ∃ (S11 : World → Prop),
                        (∀ w, S11 w → S10 w) ∧
                        S11 w12 ∧
                        ∃ (s16 : SV) (w13 : World),
                        Sem.run Pr (Builtin.append_ #[22, 22] 22 #[(.slice s12.a s12.len s12.cap), (.slice s15.a s15.len s15.cap)]) w12 = .ok (.slice s16.a s16.len s16.cap) w13 ∧
                        ∃ (S12 : World → Prop),
                        S12 w13 ∧
                        optK x0 fun a10 =>
                          ∃ (w14 : World),
                          Sem.run Pr (Instr.storeAt 22 (.pointer (some (Addr.add a10 1))) (.slice s16.a s16.len s16.cap)) w13 = .ok () w14 ∧
                          ∃ (S13 : World → Prop),
                          S13 w14 ∧
                          R (.int .i64 n4) w14)
                    (R (.int .i64 n4) w9)))

theorem call62 {x0 : Option Addr} {x1 : SV} {w0 : World} {R : Ending → World → Prop} (h : ir62 x0 x1 w0 fun v w => R (.returned v) w) : Calls Pr 62 #[.pointer x0, .slice x1.a x1.len x1.cap] w0 R := by
  refine calls_of_vc (ann := []) (E := []) (args := [.pointer x0, .slice x1.a x1.len x1.cap]) follows Try.func62 rfl (by kernel_rfl) ?_
  apply by_eq h
  kernel_rfl

/-- creel/creellaw13.put -/
def ir65 (x0 : Option Addr) (x1 : SV) (w0 : World) (R : Value → World → Prop) : Prop :=
  Calls Pr 27 #[(.pointer x0)] w0 fun e1 w1 =>
    ∃ (p1 : Option Addr) (n1 : Int),
    e1 = .returned (.tuple #[(.pointer p1), (.int .i64 n1)]) ∧
    brc (Option.isNone p1)
      (R (.bool false) w1)
      (brc (n1 != (0 : Int))
          (R (.bool false) w1)
          (LoopT (σ := Int × Unit) (fun σ1 w2 K1 =>
              ∀ _ : Env,
              brc (decide (σ1.1 < ((x1.len : Nat) : Int)))
                (((0 : Int) ≤ σ1.1 ∧ σ1.1 < ((x1.len : Nat) : Int)) ∧
                  optK x1.a fun a1 =>
                    ∃ (s1 : SV),
                    At Pr w2 (loadVar 26 (Addr.add a1 (Int.toNat σ1.1 * 1))) (.slice s1.a s1.len s1.cap) ∧
                    Calls Pr 22 #[(.pointer p1), (.slice s1.a s1.len s1.cap)] w2 fun e2 w3 =>
                      ∃ (n2 : Int),
                      e2 = .returned (.int .i64 n2) ∧
                      brc (n2 != (0 : Int))
                        (R (.bool false) w3)
                        (K1 (IntKind.wrap .i64 (σ1.1 + 1), ()) w3))
                (Calls Pr 23 #[(.pointer p1), (.string (⟨#[120]⟩ : ByteArray))] w2 fun e3 w4 =>
                    ∃ (n3 : Int),
                    e3 = .returned (.int .i64 n3) ∧
                    R (.bool (n3 == (0 : Int))) w4)) (0, ()) w1))

theorem call65 {x0 : Option Addr} {x1 : SV} {w0 : World} {R : Ending → World → Prop} (h : ir65 x0 x1 w0 fun v w => R (.returned v) w) : Calls Pr 65 #[.pointer x0, .slice x1.a x1.len x1.cap] w0 R := by
  refine calls_of_vc (ann := [(5, [(22, .int .i64)])]) (E := []) (args := [.pointer x0, .slice x1.a x1.len x1.cap]) follows Try.func65 rfl (by kernel_rfl) ?_
  apply by_eq h
  kernel_rfl

/-- creel/frame.Take -/
def ir82 (x0 : SV) (w0 : World) (R : Value → World → Prop) : Prop :=
  Calls Pr 135 #[(.slice x0.a x0.len x0.cap)] w0 fun e1 w1 =>
    ∃ (s1 : SV) (n1 : Int) (n2 : Int),
    e1 = .returned (.tuple #[(.slice s1.a s1.len s1.cap), (.int .i64 n1), (.int .i64 n2)]) ∧
    brc (n2 != (0 : Int))
      (R (.tuple #[(.slice none 0 0), (.slice none 0 0), (.int .i64 n2)]) w1)
      (∃ (S1 : World → Prop),
        S1 (World.drew w1) ∧
        ((0 : Int) ≤ n1 ∧ n1 ≤ ((x0.len : Nat) : Int)) ∧
        Calls Pr 88 #[(.slice s1.a s1.len s1.cap)] (World.drew w1) fun e2 w2 =>
          ∃ (s2 : SV),
          e2 = .returned (.slice s2.a s2.len s2.cap) ∧
          ∃ (S2 : World → Prop),
          S2 w2 ∧
          Calls Pr 88 #[(.slice (cutAt x0.a (Int.toNat n1) x0.cap 1) (x0.len - (Int.toNat n1)) (x0.cap - (Int.toNat n1)))] w2 fun e3 w3 =>
            ∃ (s3 : SV),
            e3 = .returned (.slice s3.a s3.len s3.cap) ∧
            ∃ (S3 : World → Prop),
            S3 w3 ∧
            R (.tuple #[(.slice s2.a s2.len s2.cap), (.slice s3.a s3.len s3.cap), (.int .i64 0)]) w3)

theorem call82 {x0 : SV} {w0 : World} {R : Ending → World → Prop} (h : ir82 x0 w0 fun v w => R (.returned v) w) : Calls Pr 82 #[.slice x0.a x0.len x0.cap] w0 R := by
  refine calls_of_vc (ann := []) (E := []) (args := [.slice x0.a x0.len x0.cap]) follows Try.func82 rfl (by kernel_rfl) ?_
  apply by_eq h
  kernel_rfl

/-- creel/run.All$1 -/
def ir89 (x0 : FV) (c0 : Addr) (w0 : World) (R : Value → World → Prop) : Prop :=
  ∃ (s1 : SV),
  At Pr w0 (loadVar 26 c0) (.slice s1.a s1.len s1.cap) ∧
  Calls Pr 88 #[(.slice s1.a s1.len s1.cap)] w0 fun e1 w1 =>
    ∃ (s2 : SV),
    e1 = .returned (.slice s2.a s2.len s2.cap) ∧
    ∃ (a1 : Addr) (w2 : World),
    Sem.run Pr (Instr.box 130 (.agg #[(.slice s2.a s2.len s2.cap), (.slice none 0 0), (.bool false), (.bool false)])) w1 = .ok (.pointer (some a1)) w2 ∧
    Calls Pr 21 #[(.pointer (some a1))] w2 fun e2 w3 =>
      ∃ (s3 : SV) (b1 : Bool) (n1 : Int),
      e2 = .returned (.tuple #[(.agg #[(.slice s3.a s3.len s3.cap), (.bool b1)]), (.int .i64 n1)]) ∧
      ∃ (a2 : Addr) (w4 : World),
      Sem.run Pr (Instr.alloc 34 true (.tuple #[])) w3 = .ok (.pointer (some a2)) w4 ∧
      ∃ (w5 : World),
      Sem.run Pr (Instr.storeAt 34 (.pointer (some a2)) (.agg #[(.slice s3.a s3.len s3.cap), (.bool b1)])) w4 = .ok () w5 ∧
      LoopT (σ := Addr × Int × Unit) (fun σ1 w6 K1 =>
        ∀ _ : Env,
        ∃ (b2 : Bool),
        At Pr w6 (loadVar 4 (Addr.add σ1.1 1)) (.bool b2) ∧
        brc (b2)
          (∃ (s4 : SV),
            At Pr w6 (loadVar 26 (Addr.add σ1.1 0)) (.slice s4.a s4.len s4.cap) ∧
            callV Pr (.func x0.f x0.a x0.b) [(.slice s4.a s4.len s4.cap), (.int .i64 σ1.2.1)] w6 fun e3 w7 =>
              ∃ (b3 : Bool),
              e3 = .returned (.bool b3) ∧
              brc (!b3)
                (R (.tuple #[]) w7)
                (brc (σ1.2.1 != (0 : Int))
                    (R (.tuple #[]) w7)
                    (∃ (s5 : SV) (b4 : Bool),
                      At Pr w7 (loadVar 34 σ1.1) (.agg #[(.slice s5.a s5.len s5.cap), (.bool b4)]) ∧
                      ∃ (a3 : Addr) (w8 : World),
                      Sem.run Pr (Instr.alloc 34 true (.tuple #[])) w7 = .ok (.pointer (some a3)) w8 ∧
                      ∃ (w9 : World),
                      Sem.run Pr (Instr.storeAt 34 (.pointer (some a3)) (.agg #[(.slice s5.a s5.len s5.cap), (.bool b4)])) w8 = .ok () w9 ∧
                      Calls Pr 21 #[(.pointer (some a1))] w9 fun e4 w10 =>
                        ∃ (s6 : SV) (b5 : Bool) (n2 : Int),
                        e4 = .returned (.tuple #[(.agg #[(.slice s6.a s6.len s6.cap), (.bool b5)]), (.int .i64 n2)]) ∧
                        ∃ (w11 : World),
                        Sem.run Pr (Instr.storeAt 34 (.pointer (some a3)) (.agg #[(.slice s6.a s6.len s6.cap), (.bool b5)])) w10 = .ok () w11 ∧
                        K1 (a3, n2, ()) w11)))
          (brc (σ1.2.1 != (0 : Int))
              (∃ (s7 : SV),
                At Pr w6 (loadVar 26 (Addr.add σ1.1 0)) (.slice s7.a s7.len s7.cap) ∧
                callV Pr (.func x0.f x0.a x0.b) [(.slice s7.a s7.len s7.cap), (.int .i64 σ1.2.1)] w6 fun e5 w12 =>
                  ∃ (b6 : Bool),
                  e5 = .returned (.bool b6) ∧
                  brc (!b6)
                    (R (.tuple #[]) w12)
                    (brc (σ1.2.1 != (0 : Int))
                        (R (.tuple #[]) w12)
                        (∃ (s8 : SV) (b7 : Bool),
                          At Pr w12 (loadVar 34 σ1.1) (.agg #[(.slice s8.a s8.len s8.cap), (.bool b7)]) ∧
                          ∃ (a4 : Addr) (w13 : World),
                          Sem.run Pr (Instr.alloc 34 true (.tuple #[])) w12 = .ok (.pointer (some a4)) w13 ∧
                          ∃ (w14 : World),
                          Sem.run Pr (Instr.storeAt 34 (.pointer (some a4)) (.agg #[(.slice s8.a s8.len s8.cap), (.bool b7)])) w13 = .ok () w14 ∧
                          Calls Pr 21 #[(.pointer (some a1))] w14 fun e6 w15 =>
                            ∃ (s9 : SV) (b8 : Bool) (n3 : Int),
                            e6 = .returned (.tuple #[(.agg #[(.slice s9.a s9.len s9.cap), (.bool b8)]), (.int .i64 n3)]) ∧
                            ∃ (w16 : World),
                            Sem.run Pr (Instr.storeAt 34 (.pointer (some a4)) (.agg #[(.slice s9.a s9.len s9.cap), (.bool b8)])) w15 = .ok () w16 ∧
                            K1 (a4, n3, ()) w16)))
              (R (.tuple #[]) w6))) (a2, n1, ()) w5

theorem call89 {x0 : FV} {c0 : Addr} {w0 : World} {R : Ending → World → Prop} (h : ir89 x0 c0 w0 fun v w => R (.returned v) w) : Calls Pr 89 #[.func x0.f x0.a x0.b, .pointer (some c0)] w0 R := by
  refine calls_of_vc (ann := [(2, [(4, .adr), (5, .int .i64)])]) (E := []) (args := [.func x0.f x0.a x0.b, .pointer (some c0)]) follows Try.func89 rfl (by kernel_rfl) ?_
  apply by_eq h
  kernel_rfl

/-- creel/creelref03.All -/
def ir90 (x0 : SV) (w0 : World) (R : Value → World → Prop) : Prop :=
  LoopT (σ := SV × SV × Int × Unit) (fun σ1 w1 K1 =>
    ∀ _ : Env,
    Calls Pr 139 #[(.slice σ1.1.a σ1.1.len σ1.1.cap)] w1 fun e1 w2 =>
      ∃ (s1 : SV) (s2 : SV) (n1 : Int),
      e1 = .returned (.tuple #[(.slice s1.a s1.len s1.cap), (.slice s2.a s2.len s2.cap), (.int .i64 n1)]) ∧
      brc (n1 != (0 : Int))
        (R (.tuple #[(.slice σ1.2.1.a σ1.2.1.len σ1.2.1.cap), (.int .i64 σ1.2.2.1)]) w2)
        (∃ (s3 : SV) (w3 : World),
          Sem.run Pr (Instr.buildSlice 22 1 #[(0, (.slice s1.a s1.len s1.cap))]) w2 = .ok (.slice s3.a s3.len s3.cap) w3 ∧
          ∃ (s4 : SV) (w4 : World),
          Sem.run Pr (Builtin.append_ #[22, 22] 22 #[(.slice σ1.2.1.a σ1.2.1.len σ1.2.1.cap), (.slice s3.a s3.len s3.cap)]) w3 = .ok (.slice s4.a s4.len s4.cap) w4 ∧
          K1 (s2, s4, IntKind.wrap .i64 ((IntKind.wrap .i64 (σ1.2.2.1 + ((s1.len : Nat) : Int))) + 8), ()) w4)) (x0, SV.mk none 0 0, 0, ()) w0

theorem call90 {x0 : SV} {w0 : World} {R : Ending → World → Prop} (h : ir90 x0 w0 fun v w => R (.returned v) w) : Calls Pr 90 #[.slice x0.a x0.len x0.cap] w0 R := by
  refine calls_of_vc (ann := [(3, [(0, .slice), (4, .slice), (5, .int .i64)])]) (E := []) (args := [.slice x0.a x0.len x0.cap]) follows Try.func90 rfl (by kernel_rfl) ?_
  apply by_eq h
  kernel_rfl

/-- creel/frame.All -/
def ir127 (x0 : SV) (w0 : World) (R : Value → World → Prop) : Prop :=
  LoopT (σ := Int × SV × Unit) (fun σ1 w1 K1 =>
    ∀ _ : Env,
    ((0 : Int) ≤ σ1.1 ∧ σ1.1 ≤ ((x0.len : Nat) : Int)) ∧
    Calls Pr 135 #[(.slice (cutAt x0.a (Int.toNat σ1.1) x0.cap 1) (x0.len - (Int.toNat σ1.1)) (x0.cap - (Int.toNat σ1.1)))] w1 fun e1 w2 =>
      ∃ (s1 : SV) (n1 : Int) (n2 : Int),
      e1 = .returned (.tuple #[(.slice s1.a s1.len s1.cap), (.int .i64 n1), (.int .i64 n2)]) ∧
      brc (n2 != (0 : Int))
        (R (.tuple #[(.slice σ1.2.1.a σ1.2.1.len σ1.2.1.cap), (.int .i64 σ1.1)]) w2)
        (Calls Pr 88 #[(.slice s1.a s1.len s1.cap)] w2 fun e2 w3 =>
            ∃ (s2 : SV),
            e2 = .returned (.slice s2.a s2.len s2.cap) ∧
            ∃ (s3 : SV) (w4 : World),
            Sem.run Pr (Instr.buildSlice 22 1 #[(0, (.slice s2.a s2.len s2.cap))]) w3 = .ok (.slice s3.a s3.len s3.cap) w4 ∧
            ∃ (s4 : SV) (w5 : World),
            Sem.run Pr (Builtin.append_ #[22, 22] 22 #[(.slice σ1.2.1.a σ1.2.1.len σ1.2.1.cap), (.slice s3.a s3.len s3.cap)]) w4 = .ok (.slice s4.a s4.len s4.cap) w5 ∧
            K1 (IntKind.wrap .i64 (σ1.1 + n1), s4, ()) w5)) (0, SV.mk none 0 0, ()) w0

theorem call127 {x0 : SV} {w0 : World} {R : Ending → World → Prop} (h : ir127 x0 w0 fun v w => R (.returned v) w) : Calls Pr 127 #[.slice x0.a x0.len x0.cap] w0 R := by
  refine calls_of_vc (ann := [(3, [(5, .int .i64), (4, .slice)])]) (E := []) (args := [.slice x0.a x0.len x0.cap]) follows Try.func127 rfl (by kernel_rfl) ?_
  apply by_eq h
  kernel_rfl

/-- creel/frame.take -/
def ir135 (x0 : SV) (w0 : World) (R : Value → World → Prop) : Prop :=
  Calls Pr 153 #[(.slice x0.a x0.len x0.cap)] w0 fun e1 w1 =>
    ∃ (n1 : Int) (n2 : Int),
    e1 = .returned (.tuple #[(.int .i64 n1), (.int .i64 n2)]) ∧
    brc (n2 != (0 : Int))
      (R (.tuple #[(.slice none 0 0), (.int .i64 0), (.int .i64 n2)]) w1)
      (((0 : Int) ≤ (IntKind.wrap .i64 (n1 + 4)) ∧ (IntKind.wrap .i64 (n1 + 4)) ≤ ((x0.cap : Nat) : Int)) ∧
        Calls Pr 154 #[(.slice (cutAt x0.a 0 x0.cap 1) ((Int.toNat (IntKind.wrap .i64 (n1 + 4))) - 0) (x0.cap - 0))] w1 fun e2 w2 =>
          ∃ (b1 : Bool),
          e2 = .returned (.bool b1) ∧
          brc (!b1)
            (R (.tuple #[(.slice none 0 0), (.int .i64 0), (.int .i64 6)]) w2)
            (((0 : Int) ≤ n1 ∧ n1 ≤ ((x0.cap : Nat) : Int)) ∧
              ((0 : Int) ≤ 4 ∧ 4 ≤ ((Int.toNat n1 : Nat) : Int)) ∧
              R (.tuple #[(.slice (cutAt x0.a (Int.toNat 4) x0.cap 1) ((Int.toNat n1) - (Int.toNat 4)) (x0.cap - (Int.toNat 4))), (.int .i64 (IntKind.wrap .i64 (n1 + 4))), (.int .i64 0)]) w2))

theorem call135 {x0 : SV} {w0 : World} {R : Ending → World → Prop} (h : ir135 x0 w0 fun v w => R (.returned v) w) : Calls Pr 135 #[.slice x0.a x0.len x0.cap] w0 R := by
  refine calls_of_vc (ann := []) (E := []) (args := [.slice x0.a x0.len x0.cap]) follows Try.func135 rfl (by kernel_rfl) ?_
  apply by_eq h
  kernel_rfl

/-- creel/creelref03.Take -/
def ir139 (x0 : SV) (w0 : World) (R : Value → World → Prop) : Prop :=
  Calls Pr 157 #[(.slice x0.a x0.len x0.cap), (.int .i64 4)] w0 fun e1 w1 =>
    ∃ (n1 : Int) (s1 : SV) (n2 : Int),
    e1 = .returned (.tuple #[(.int .u64 n1), (.slice s1.a s1.len s1.cap), (.int .i64 n2)]) ∧
    brc (n2 != (0 : Int))
      (R (.tuple #[(.slice none 0 0), (.slice none 0 0), (.int .i64 5)]) w1)
      (brc (decide (n1 > (4096 : Int)))
          (R (.tuple #[(.slice none 0 0), (.slice none 0 0), (.int .i64 6)]) w1)
          (brc (decide (((x0.len : Nat) : Int) < (IntKind.wrap .i64 ((IntKind.wrap .i64 ((IntKind.wrap .i64 n1) + 4)) + 4))))
              (R (.tuple #[(.slice none 0 0), (.slice none 0 0), (.int .i64 5)]) w1)
              (((0 : Int) ≤ (IntKind.wrap .i64 ((IntKind.wrap .i64 ((IntKind.wrap .i64 n1) + 4)) + 4)) ∧ (IntKind.wrap .i64 ((IntKind.wrap .i64 ((IntKind.wrap .i64 n1) + 4)) + 4)) ≤ ((x0.cap : Nat) : Int)) ∧
                Calls Pr 158 #[(.slice (cutAt x0.a 0 x0.cap 1) ((Int.toNat (IntKind.wrap .i64 ((IntKind.wrap .i64 ((IntKind.wrap .i64 n1) + 4)) + 4))) - 0) (x0.cap - 0))] w1 fun e2 w2 =>
                  ∃ (s2 : SV) (n3 : Int),
                  e2 = .returned (.tuple #[(.slice s2.a s2.len s2.cap), (.int .i64 n3)]) ∧
                  brc (n3 != (0 : Int))
                    (R (.tuple #[(.slice none 0 0), (.slice none 0 0), (.int .i64 6)]) w2)
                    (∃ (S1 : World → Prop),
                      S1 (World.drew w2) ∧
                      ((0 : Int) ≤ (IntKind.wrap .i64 ((IntKind.wrap .i64 n1) + 4)) ∧ (IntKind.wrap .i64 ((IntKind.wrap .i64 n1) + 4)) ≤ ((x0.cap : Nat) : Int)) ∧
                      ((0 : Int) ≤ 4 ∧ 4 ≤ ((Int.toNat (IntKind.wrap .i64 ((IntKind.wrap .i64 n1) + 4)) : Nat) : Int)) ∧
                      ((0 : Int) ≤ (IntKind.wrap .i64 ((IntKind.wrap .i64 ((IntKind.wrap .i64 n1) + 4)) + 4)) ∧ (IntKind.wrap .i64 ((IntKind.wrap .i64 ((IntKind.wrap .i64 n1) + 4)) + 4)) ≤ ((x0.len : Nat) : Int)) ∧
                      (∃ (s3 : SV) (w3 : World),
                      Sem.run Pr (Instr.buildSlice 26 0 #[]) (World.drew w2) = .ok (.slice s3.a s3.len s3.cap) w3 ∧
                      ∃ (S2 : World → Prop),
                      S2 w3 ∧
                      (∃ (s4 : SV) (w4 : World),
                      Sem.run Pr (Builtin.append_ #[26, 26] 26 #[(.slice s3.a s3.len s3.cap), (.slice (cutAt x0.a (Int.toNat 4) x0.cap 1) ((Int.toNat (IntKind.wrap .i64 ((IntKind.wrap .i64 n1) + 4))) - (Int.toNat 4)) (x0.cap - (Int.toNat 4)))]) w3 = .ok (.slice s4.a s4.len s4.cap) w4 ∧
                      ∃ (S3 : World → Prop),
                      S3 w4 ∧
                      ∃ (s5 : SV) (w5 : World),
                      Sem.run Pr (Instr.buildSlice 26 0 #[]) w4 = .ok (.slice s5.a s5.len s5.cap) w5 ∧
                      ∃ (S4 : World → Prop),
                      S4 w5 ∧
                      ∃ (s6 : SV) (w6 : World),
                      Sem.run Pr (Builtin.append_ #[26, 26] 26 #[(.slice s5.a s5.len s5.cap), (.slice (cutAt x0.a (Int.toNat (IntKind.wrap .i64 ((IntKind.wrap .i64 ((IntKind.wrap .i64 n1) + 4)) + 4))) x0.cap 1) (x0.len - (Int.toNat (IntKind.wrap .i64 ((IntKind.wrap .i64 ((IntKind.wrap .i64 n1) + 4)) + 4)))) (x0.cap - (Int.toNat (IntKind.wrap .i64 ((IntKind.wrap .i64 ((IntKind.wrap .i64 n1) + 4)) + 4)))))]) w5 = .ok (.slice s6.a s6.len s6.cap) w6 ∧
                      ∃ (S5 : World → Prop),
                      S5 w6 ∧
                      R (.tuple #[(.slice s4.a s4.len s4.cap), (.slice s6.a s6.len s6.cap), (.int .i64 0)]) w6) ∧
                      ∃ (s7 : SV) (w7 : World),
                      Sem.run Pr (Instr.buildSlice 26 0 #[]) w3 = .ok (.slice s7.a s7.len s7.cap) w7 ∧
                      ∃ (S6 : World → Prop),
                      S6 w7 ∧
                      ∃ (s8 : SV) (w8 : World),
                      Sem.run Pr (Builtin.append_ #[26, 26] 26 #[(.slice s3.a s3.len s3.cap), (.slice (cutAt x0.a (Int.toNat 4) x0.cap 1) ((Int.toNat (IntKind.wrap .i64 ((IntKind.wrap .i64 n1) + 4))) - (Int.toNat 4)) (x0.cap - (Int.toNat 4)))]) w7 = .ok (.slice s8.a s8.len s8.cap) w8 ∧
                      ∃ (S7 : World → Prop),
                      S7 w8 ∧
                      ∃ (s9 : SV) (w9 : World),
                      Sem.run Pr (Builtin.append_ #[26, 26] 26 #[(.slice s7.a s7.len s7.cap), (.slice (cutAt x0.a (Int.toNat (IntKind.wrap .i64 ((IntKind.wrap .i64 ((IntKind.wrap .i64 n1) + 4)) + 4))) x0.cap 1) (x0.len - (Int.toNat (IntKind.wrap .i64 ((IntKind.wrap .i64 ((IntKind.wrap .i64 n1) + 4)) + 4)))) (x0.cap - (Int.toNat (IntKind.wrap .i64 ((IntKind.wrap .i64 ((IntKind.wrap .i64 n1) + 4)) + 4)))))]) w8 = .ok (.slice s9.a s9.len s9.cap) w9 ∧
                      ∃ (S8 : World → Prop),
                      S8 w9 ∧
                      R (.tuple #[(.slice s8.a s8.len s8.cap), (.slice s9.a s9.len s9.cap), (.int .i64 0)]) w9) ∧
                      ∃ (s10 : SV) (w10 : World),
                      Sem.run Pr (Instr.buildSlice 26 0 #[]) (World.drew w2) = .ok (.slice s10.a s10.len s10.cap) w10 ∧
                      ∃ (S9 : World → Prop),
                      S9 w10 ∧
                      ∃ (s11 : SV) (w11 : World),
                      Sem.run Pr (Instr.buildSlice 26 0 #[]) w10 = .ok (.slice s11.a s11.len s11.cap) w11 ∧
                      ∃ (S10 : World → Prop),
                      S10 w11 ∧
                      ∃ (s12 : SV) (w12 : World),
                      Sem.run Pr (Builtin.append_ #[26, 26] 26 #[(.slice s11.a s11.len s11.cap), (.slice (cutAt x0.a (Int.toNat 4) x0.cap 1) ((Int.toNat (IntKind.wrap .i64 ((IntKind.wrap .i64 n1) + 4))) - (Int.toNat 4)) (x0.cap - (Int.toNat 4)))]) w11 = .ok (.slice s12.a s12.len s12.cap) w12 ∧
                      ∃ (S11 : World → Prop),
                      S11 w12 ∧
                      ∃ (s13 : SV) (w13 : World),
                      Sem.run Pr (Builtin.append_ #[26, 26] 26 #[(.slice s10.a s10.len s10.cap), (.slice (cutAt x0.a (Int.toNat (IntKind.wrap .i64 ((IntKind.wrap .i64 ((IntKind.wrap .i64 n1) + 4)) + 4))) x0.cap 1) (x0.len - (Int.toNat (IntKind.wrap .i64 ((IntKind.wrap .i64 ((IntKind.wrap .i64 n1) + 4)) + 4)))) (x0.cap - (Int.toNat (IntKind.wrap .i64 ((IntKind.wrap .i64 ((IntKind.wrap .i64 n1) + 4)) + 4)))))]) w12 = .ok (.slice s13.a s13.len s13.cap) w13 ∧
                      ∃ (S12 : World → Prop),
                      S12 w13 ∧
                      R (.tuple #[(.slice s12.a s12.len s12.cap), (.slice s13.a s13.len s13.cap), (.int .i64 0)]) w13))))

theorem call139 {x0 : SV} {w0 : World} {R : Ending → World → Prop} (h : ir139 x0 w0 fun v w => R (.returned v) w) : Calls Pr 139 #[.slice x0.a x0.len x0.cap] w0 R := by
  refine calls_of_vc (ann := []) (E := []) (args := [.slice x0.a x0.len x0.cap]) follows Try.func139 rfl (by kernel_rfl) ?_
  apply by_eq h
  kernel_rfl

/-- slices.Chunk[[]byte,byte] -/
def ir147 (x0 : SV) (x1 : Int) (w0 : World) (R : Value → World → Prop) : Prop :=
  ∃ (a1 : Addr) (w1 : World),
  Sem.run Pr (Instr.box 26 (.slice x0.a x0.len x0.cap)) w0 = .ok (.pointer (some a1)) w1 ∧
  ∃ (a2 : Addr) (w2 : World),
  Sem.run Pr (Instr.box 3 (.int .i64 x1)) w1 = .ok (.pointer (some a2)) w2 ∧
  ∃ (n1 : Int),
  At Pr w2 (loadVar 3 a2) (.int .i64 n1) ∧
  brc (decide (n1 < (1 : Int)))
    (∃ (v1 : Value),
      At Pr w2 (Instr.makeInterface 9 (.string (⟨#[99, 97, 110, 110, 111, 116, 32, 98, 101, 32, 108, 101, 115, 115, 32, 116, 104, 97, 110, 32, 49]⟩ : ByteArray))) v1 ∧
      False)
    (R (.func (.func 161) #[] #[(.pointer (some a1)), (.pointer (some a2))]) w2)

theorem call147 {x0 : SV} {x1 : Int} {w0 : World} {R : Ending → World → Prop} (h : ir147 x0 x1 w0 fun v w => R (.returned v) w) : Calls Pr 147 #[.slice x0.a x0.len x0.cap, .int .i64 x1] w0 R := by
  refine calls_of_vc (ann := []) (E := []) (args := [.slice x0.a x0.len x0.cap, .int .i64 x1]) follows Try.func147 rfl (by kernel_rfl) ?_
  apply by_eq h
  kernel_rfl

/-- creel/frame.span -/
def ir153 (x0 : SV) (w0 : World) (R : Value → World → Prop) : Prop :=
  ((0 : Int) ≤ (if 4 < ((x0.len : Nat) : Int) then 4 else ((x0.len : Nat) : Int)) ∧ (if 4 < ((x0.len : Nat) : Int) then 4 else ((x0.len : Nat) : Int)) ≤ ((x0.cap : Nat) : Int)) ∧
  Calls Pr 165 #[(.slice (cutAt x0.a 0 x0.cap 1) ((Int.toNat (if 4 < ((x0.len : Nat) : Int) then 4 else ((x0.len : Nat) : Int))) - 0) (x0.cap - 0)), (.int .i64 4)] w0 fun e1 w1 =>
    ∃ (n1 : Int) (s1 : SV) (n2 : Int),
    e1 = .returned (.tuple #[(.int .u64 n1), (.slice s1.a s1.len s1.cap), (.int .i64 n2)]) ∧
    brc (n2 != (0 : Int))
      (R (.tuple #[(.int .i64 0), (.int .i64 5)]) w1)
      (brc (decide (n1 > (4096 : Int)))
          (R (.tuple #[(.int .i64 0), (.int .i64 6)]) w1)
          (brc (decide (((x0.len : Nat) : Int) < (IntKind.wrap .i64 (8 + (IntKind.wrap .i64 n1)))))
              (R (.tuple #[(.int .i64 0), (.int .i64 5)]) w1)
              (R (.tuple #[(.int .i64 (IntKind.wrap .i64 (4 + (IntKind.wrap .i64 n1)))), (.int .i64 0)]) w1)))

theorem call153 {x0 : SV} {w0 : World} {R : Ending → World → Prop} (h : ir153 x0 w0 fun v w => R (.returned v) w) : Calls Pr 153 #[.slice x0.a x0.len x0.cap] w0 R := by
  refine calls_of_vc (ann := []) (E := []) (args := [.slice x0.a x0.len x0.cap]) follows Try.func153 rfl (by kernel_rfl) ?_
  apply by_eq h
  kernel_rfl

/-- creel/frame.sealed -/
def ir154 (x0 : SV) (w0 : World) (R : Value → World → Prop) : Prop :=
  ((0 : Int) ≤ (IntKind.wrap .i64 (((x0.len : Nat) : Int) - 4)) ∧ (IntKind.wrap .i64 (((x0.len : Nat) : Int) - 4)) ≤ ((x0.cap : Nat) : Int)) ∧
  Calls Pr 137 #[(.slice (cutAt x0.a 0 x0.cap 1) ((Int.toNat (IntKind.wrap .i64 (((x0.len : Nat) : Int) - 4))) - 0) (x0.cap - 0))] w0 fun e1 w1 =>
    ∃ (s1 : SV),
    e1 = .returned (.slice s1.a s1.len s1.cap) ∧
    Calls Pr 166 #[(.slice s1.a s1.len s1.cap), (.slice x0.a x0.len x0.cap)] w1 fun e2 w2 =>
      ∃ (b1 : Bool),
      e2 = .returned (.bool b1) ∧
      R (.bool b1) w2

theorem call154 {x0 : SV} {w0 : World} {R : Ending → World → Prop} (h : ir154 x0 w0 fun v w => R (.returned v) w) : Calls Pr 154 #[.slice x0.a x0.len x0.cap] w0 R := by
  refine calls_of_vc (ann := []) (E := []) (args := [.slice x0.a x0.len x0.cap]) follows Try.func154 rfl (by kernel_rfl) ?_
  apply by_eq h
  kernel_rfl

/-- creel/creelref01.Unfix -/
def ir157 (x0 : SV) (x1 : Int) (w0 : World) (R : Value → World → Prop) : Prop :=
  brc (decide (x1 < (1 : Int)))
    (R (.tuple #[(.int .u64 0), (.slice none 0 0), (.int .i64 1)]) w0)
    (brc (decide (x1 > (8 : Int)))
        (R (.tuple #[(.int .u64 0), (.slice none 0 0), (.int .i64 1)]) w0)
        (brc (decide (((x0.len : Nat) : Int) < x1))
            (R (.tuple #[(.int .u64 0), (.slice none 0 0), (.int .i64 5)]) w0)
            (LoopT (σ := Int × Int × Unit) (fun σ1 w1 K1 =>
                ∀ _ : Env,
                brc (decide (σ1.1 < x1))
                  (((0 : Int) ≤ σ1.1 ∧ σ1.1 < ((x0.len : Nat) : Int)) ∧
                    optK x0.a fun a1 =>
                      ∃ (n1 : Int),
                      At Pr w1 (loadVar 5 (Addr.add a1 (Int.toNat σ1.1 * 1))) (.int .u8 n1) ∧
                      K1 (IntKind.wrap .i64 (σ1.1 + 1), IntKind.wrap .u64 ((IntKind.wrap .u64 (σ1.2.1 * 256)) + (IntKind.wrap .u64 n1)), ()) w1)
                  (∃ (s1 : SV) (w2 : World),
                    Sem.run Pr (Instr.buildSlice 26 0 #[]) w1 = .ok (.slice s1.a s1.len s1.cap) w2 ∧
                    ((0 : Int) ≤ x1 ∧ x1 ≤ ((x0.len : Nat) : Int)) ∧
                    ∃ (s2 : SV) (w3 : World),
                    Sem.run Pr (Builtin.append_ #[26, 26] 26 #[(.slice s1.a s1.len s1.cap), (.slice (cutAt x0.a (Int.toNat x1) x0.cap 1) (x0.len - (Int.toNat x1)) (x0.cap - (Int.toNat x1)))]) w2 = .ok (.slice s2.a s2.len s2.cap) w3 ∧
                    R (.tuple #[(.int .u64 σ1.2.1), (.slice s2.a s2.len s2.cap), (.int .i64 0)]) w3)) (0, 0, ()) w0)))

theorem call157 {x0 : SV} {x1 : Int} {w0 : World} {R : Ending → World → Prop} (h : ir157 x0 x1 w0 fun v w => R (.returned v) w) : Calls Pr 157 #[.slice x0.a x0.len x0.cap, .int .i64 x1] w0 R := by
  refine calls_of_vc (ann := [(7, [(8, .int .i64), (7, .int .u64)])]) (E := []) (args := [.slice x0.a x0.len x0.cap, .int .i64 x1]) follows Try.func157 rfl (by kernel_rfl) ?_
  apply by_eq h
  kernel_rfl

/-- creel/creelref03.Unseal -/
def ir158 (x0 : SV) (w0 : World) (R : Value → World → Prop) : Prop :=
  brc (decide (((x0.len : Nat) : Int) < (4 : Int)))
    (R (.tuple #[(.slice none 0 0), (.int .i64 5)]) w0)
    (∃ (s1 : SV) (w1 : World),
      Sem.run Pr (Instr.buildSlice 26 0 #[]) w0 = .ok (.slice s1.a s1.len s1.cap) w1 ∧
      ((0 : Int) ≤ (IntKind.wrap .i64 (((x0.len : Nat) : Int) - 4)) ∧ (IntKind.wrap .i64 (((x0.len : Nat) : Int) - 4)) ≤ ((x0.cap : Nat) : Int)) ∧
      ∃ (s2 : SV) (w2 : World),
      Sem.run Pr (Builtin.append_ #[26, 26] 26 #[(.slice s1.a s1.len s1.cap), (.slice (cutAt x0.a 0 x0.cap 1) ((Int.toNat (IntKind.wrap .i64 (((x0.len : Nat) : Int) - 4))) - 0) (x0.cap - 0))]) w1 = .ok (.slice s2.a s2.len s2.cap) w2 ∧
      ∃ (S1 : World → Prop),
      S1 (World.drew w2) ∧
      ∃ (str1 : ByteArray),
      AtS Pr S1 (convert 26 9 (.slice x0.a x0.len x0.cap)) (.string str1) ∧
      Calls Pr 128 #[(.slice s2.a s2.len s2.cap)] (World.drew w2) fun e1 w3 =>
        ∃ (s3 : SV),
        e1 = .returned (.slice s3.a s3.len s3.cap) ∧
        ∃ (S2 : World → Prop),
        (∀ w, S2 w → S1 w) ∧
        S2 w3 ∧
        ∃ (str2 : ByteArray),
        AtS Pr S2 (convert 26 9 (.slice s3.a s3.len s3.cap)) (.string str2) ∧
        brc (!(ByteArray.toList str2 == ByteArray.toList str1))
          (R (.tuple #[(.slice none 0 0), (.int .i64 6)]) w3)
          (R (.tuple #[(.slice s2.a s2.len s2.cap), (.int .i64 0)]) w3))

theorem call158 {x0 : SV} {w0 : World} {R : Ending → World → Prop} (h : ir158 x0 w0 fun v w => R (.returned v) w) : Calls Pr 158 #[.slice x0.a x0.len x0.cap] w0 R := by
  refine calls_of_vc (ann := []) (E := []) (args := [.slice x0.a x0.len x0.cap]) follows Try.func158 rfl (by kernel_rfl) ?_
  apply by_eq h
  kernel_rfl

/-- slices.Chunk[[]byte,byte]$1 -/
def ir161 (x0 : FV) (c0 : Addr) (c1 : Addr) (w0 : World) (R : Value → World → Prop) : Prop :=
  LoopT (σ := Int × Unit) (fun σ1 w1 K1 =>
    ∀ _ : Env,
    ∃ (s1 : SV),
    At Pr w1 (loadVar 26 c0) (.slice s1.a s1.len s1.cap) ∧
    brc (decide (σ1.1 < ((s1.len : Nat) : Int)))
      (∃ (S1 : World → Prop),
        S1 (World.drew w1) ∧
        ∃ (n1 : Int),
        AtS Pr S1 (loadVar 3 c1) (.int .i64 n1) ∧
        ∃ (s2 : SV),
        AtS Pr S1 (loadVar 26 c0) (.slice s2.a s2.len s2.cap) ∧
        ((0 : Int) ≤ σ1.1 ∧ σ1.1 ≤ ((s2.len : Nat) : Int)) ∧
        ∃ (s3 : SV),
        At Pr (World.drew w1) (loadVar 26 c0) (.slice s3.a s3.len s3.cap) ∧
        ((0 : Int) ≤ (IntKind.wrap .i64 (σ1.1 + (if ((s2.len - (Int.toNat σ1.1) : Nat) : Int) < n1 then ((s2.len - (Int.toNat σ1.1) : Nat) : Int) else n1))) ∧ (IntKind.wrap .i64 (σ1.1 + (if ((s2.len - (Int.toNat σ1.1) : Nat) : Int) < n1 then ((s2.len - (Int.toNat σ1.1) : Nat) : Int) else n1))) ≤ ((s3.cap : Nat) : Int)) ∧
        ((0 : Int) ≤ (IntKind.wrap .i64 (σ1.1 + (if ((s2.len - (Int.toNat σ1.1) : Nat) : Int) < n1 then ((s2.len - (Int.toNat σ1.1) : Nat) : Int) else n1))) ∧ (IntKind.wrap .i64 (σ1.1 + (if ((s2.len - (Int.toNat σ1.1) : Nat) : Int) < n1 then ((s2.len - (Int.toNat σ1.1) : Nat) : Int) else n1))) ≤ ((Int.toNat (IntKind.wrap .i64 (σ1.1 + (if ((s2.len - (Int.toNat σ1.1) : Nat) : Int) < n1 then ((s2.len - (Int.toNat σ1.1) : Nat) : Int) else n1))) : Nat) : Int)) ∧
        ((0 : Int) ≤ σ1.1 ∧ σ1.1 ≤ ((Int.toNat (IntKind.wrap .i64 (σ1.1 + (if ((s2.len - (Int.toNat σ1.1) : Nat) : Int) < n1 then ((s2.len - (Int.toNat σ1.1) : Nat) : Int) else n1))) : Nat) : Int)) ∧
        callV Pr (.func x0.f x0.a x0.b) [(.slice (cutAt s3.a (Int.toNat σ1.1) (Int.toNat (IntKind.wrap .i64 (σ1.1 + (if ((s2.len - (Int.toNat σ1.1) : Nat) : Int) < n1 then ((s2.len - (Int.toNat σ1.1) : Nat) : Int) else n1)))) 1) ((Int.toNat (IntKind.wrap .i64 (σ1.1 + (if ((s2.len - (Int.toNat σ1.1) : Nat) : Int) < n1 then ((s2.len - (Int.toNat σ1.1) : Nat) : Int) else n1)))) - (Int.toNat σ1.1)) ((Int.toNat (IntKind.wrap .i64 (σ1.1 + (if ((s2.len - (Int.toNat σ1.1) : Nat) : Int) < n1 then ((s2.len - (Int.toNat σ1.1) : Nat) : Int) else n1)))) - (Int.toNat σ1.1)))] (World.drew w1) fun e1 w2 =>
          ∃ (b1 : Bool),
          e1 = .returned (.bool b1) ∧
          brc (!b1)
            (R (.tuple #[]) w2)
            (∃ (n2 : Int),
              At Pr w2 (loadVar 3 c1) (.int .i64 n2) ∧
              K1 (IntKind.wrap .i64 (σ1.1 + n2), ()) w2))
      (R (.tuple #[]) w1)) (0, ()) w0

theorem call161 {x0 : FV} {c0 : Addr} {c1 : Addr} {w0 : World} {R : Ending → World → Prop} (h : ir161 x0 c0 c1 w0 fun v w => R (.returned v) w) : Calls Pr 161 #[.func x0.f x0.a x0.b, .pointer (some c0), .pointer (some c1)] w0 R := by
  refine calls_of_vc (ann := [(1, [(4, .int .i64)])]) (E := []) (args := [.func x0.f x0.a x0.b, .pointer (some c0), .pointer (some c1)]) follows Try.func161 rfl (by kernel_rfl) ?_
  apply by_eq h
  kernel_rfl

/-- creel/vary.Unfix -/
def ir165 (x0 : SV) (x1 : Int) (w0 : World) (R : Value → World → Prop) : Prop :=
  brc (decide (x1 < (1 : Int)))
    (R (.tuple #[(.int .u64 0), (.slice none 0 0), (.int .i64 1)]) w0)
    (brc (decide (x1 > (8 : Int)))
        (R (.tuple #[(.int .u64 0), (.slice none 0 0), (.int .i64 1)]) w0)
        (brc (decide (((x0.len : Nat) : Int) < x1))
            (R (.tuple #[(.int .u64 0), (.slice none 0 0), (.int .i64 5)]) w0)
            (((0 : Int) ≤ x1 ∧ x1 ≤ ((x0.cap : Nat) : Int)) ∧
              LoopT (σ := Int × Int × Unit) (fun σ1 w1 K1 =>
                ∀ _ : Env,
                brc (decide (σ1.1 < (((Int.toNat x1) - 0 : Nat) : Int)))
                  (((0 : Int) ≤ σ1.1 ∧ σ1.1 < (((Int.toNat x1) - 0 : Nat) : Int)) ∧
                    optK (cutAt x0.a 0 x0.cap 1) fun a1 =>
                      ∃ (n1 : Int),
                      At Pr w1 (loadVar 5 (Addr.add a1 (Int.toNat σ1.1 * 1))) (.int .u8 n1) ∧
                      (0 : Int) ≤ 8 ∧
                      K1 (IntKind.wrap .i64 (σ1.1 + 1), IntKind.wrap .u64 ((BitVec.ofInt (IntKind.bits .u64) (IntKind.wrap .u64 (σ1.2.1 * 2 ^ (min (Int.toNat 8) (IntKind.bits .u64)))) ||| BitVec.ofInt (IntKind.bits .u64) (IntKind.wrap .u64 n1)).toNat), ()) w1)
                  (((0 : Int) ≤ x1 ∧ x1 ≤ ((x0.len : Nat) : Int)) ∧
                    Calls Pr 88 #[(.slice (cutAt x0.a (Int.toNat x1) x0.cap 1) (x0.len - (Int.toNat x1)) (x0.cap - (Int.toNat x1)))] w1 fun e1 w2 =>
                      ∃ (s1 : SV),
                      e1 = .returned (.slice s1.a s1.len s1.cap) ∧
                      R (.tuple #[(.int .u64 σ1.2.1), (.slice s1.a s1.len s1.cap), (.int .i64 0)]) w2)) (0, 0, ()) w0)))

theorem call165 {x0 : SV} {x1 : Int} {w0 : World} {R : Ending → World → Prop} (h : ir165 x0 x1 w0 fun v w => R (.returned v) w) : Calls Pr 165 #[.slice x0.a x0.len x0.cap, .int .i64 x1] w0 R := by
  refine calls_of_vc (ann := [(7, [(26, .int .i64), (7, .int .u64)])]) (E := []) (args := [.slice x0.a x0.len x0.cap, .int .i64 x1]) follows Try.func165 rfl (by kernel_rfl) ?_
  apply by_eq h
  kernel_rfl

/-- slices.Equal[[]byte,byte] -/
def ir166 (x0 : SV) (x1 : SV) (w0 : World) (R : Value → World → Prop) : Prop :=
  brc (((x0.len : Nat) : Int) != ((x1.len : Nat) : Int))
    (R (.bool false) w0)
    (LoopT (σ := Int × Unit) (fun σ1 w1 K1 =>
        ∀ _ : Env,
        brc (decide (σ1.1 < ((x0.len : Nat) : Int)))
          (∃ (S1 : World → Prop),
            S1 (World.drew w1) ∧
            ((0 : Int) ≤ σ1.1 ∧ σ1.1 < ((x0.len : Nat) : Int)) ∧
            optK x0.a fun a1 =>
              ∃ (n1 : Int),
              AtS Pr S1 (loadVar 5 (Addr.add a1 (Int.toNat σ1.1 * 1))) (.int .u8 n1) ∧
              ((0 : Int) ≤ σ1.1 ∧ σ1.1 < ((x1.len : Nat) : Int)) ∧
              optK x1.a fun a2 =>
                ∃ (n2 : Int),
                AtS Pr S1 (loadVar 5 (Addr.add a2 (Int.toNat σ1.1 * 1))) (.int .u8 n2) ∧
                brc (n1 != n2)
                  (R (.bool false) (World.drew w1))
                  (K1 (IntKind.wrap .i64 (σ1.1 + 1), ()) (World.drew w1)))
          (R (.bool true) w1)) (0, ()) w0)

theorem call166 {x0 : SV} {x1 : SV} {w0 : World} {R : Ending → World → Prop} (h : ir166 x0 x1 w0 fun v w => R (.returned v) w) : Calls Pr 166 #[.slice x0.a x0.len x0.cap, .slice x1.a x1.len x1.cap] w0 R := by
  refine calls_of_vc (ann := [(4, [(13, .int .i64)])]) (E := []) (args := [.slice x0.a x0.len x0.cap, .slice x1.a x1.len x1.cap]) follows Try.func166 rfl (by kernel_rfl) ?_
  apply by_eq h
  kernel_rfl

end Go.Proofs.Ytonjaaljnjjjcaa
