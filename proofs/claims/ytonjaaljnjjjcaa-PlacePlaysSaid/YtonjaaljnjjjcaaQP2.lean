/- A disk in plain Lean: what stays true of it whatever is done; names by lists. No program in sight. -/
import Derived.Maps.AppendAt
import Derived.OwnWalk
import GoSem.Op.String
import Derived.Laws.Strings
import Derived.Lib.Bytealg
import Derived.Test.YtonjaaljnjjjcaaQP1
/- What 'vc' of these functions comes to, and their calls by it. Printed by dec.py. -/
set_option linter.unusedVariables false
set_option linter.unusedSimpArgs false
namespace Go.Proofs.Ytonjaaljnjjjcaa
open Go

/-- creel/place.Put -/
def ir48 (x0 : Option Addr) (x1 : ByteArray) (x2 : SV) (w0 : World) (R : Value → World → Prop) : Prop :=
  ∃ (a1 : Addr) (w1 : World),
  Sem.run Pr (Instr.box 41 (.pointer x0)) w0 = .ok (.pointer (some a1)) w1 ∧
  ∃ (a2 : Addr) (w2 : World),
  Sem.run Pr (Instr.box 9 (.string x1)) w1 = .ok (.pointer (some a2)) w2 ∧
  ∃ (a3 : Addr) (w3 : World),
  Sem.run Pr (Instr.box 26 (.slice x2.a x2.len x2.cap)) w2 = .ok (.pointer (some a3)) w3 ∧
  ∃ (str1 : ByteArray),
  At Pr w3 (loadVar 9 a2) (.string str1) ∧
  Calls Pr 112 #[(.string str1)] w3 fun e1 w4 =>
    ∃ (b1 : Bool),
    e1 = .returned (.bool b1) ∧
    brc (!b1)
      (R (.int .i64 1) w4)
      (∃ (p1 : Option Addr),
        At Pr w4 (loadVar 41 a1) (.pointer p1) ∧
        Calls Pr 86 #[(.pointer p1), (.string (⟨#[116, 109, 112]⟩ : ByteArray))] w4 fun e2 w5 =>
          ∃ (n1 : Int),
          e2 = .returned (.int .i64 n1) ∧
          brc (n1 != (0 : Int))
            (brc (n1 != (2 : Int))
                (R (.int .i64 n1) w5)
                (∃ (p2 : Option Addr),
                  At Pr w5 (loadVar 41 a1) (.pointer p2) ∧
                  ∃ (s1 : SV) (w6 : World),
                  Sem.run Pr (Instr.buildSlice 201 5 #[(0, (.func (.func 114) #[] #[(.pointer (some a1))])), (1, (.func (.func 115) #[] #[(.pointer (some a1)), (.pointer (some a3))])), (2, (.func (.func 117) #[] #[(.pointer (some a1))])), (3, (.func (.func 118) #[] #[(.pointer (some a1)), (.pointer (some a2))])), (4, (.func (.func 55) #[(.pointer p2)] #[]))]) w5 = .ok (.slice s1.a s1.len s1.cap) w6 ∧
                  Calls Pr 113 #[(.slice s1.a s1.len s1.cap)] w6 fun e3 w7 =>
                    ∃ (n2 : Int),
                    e3 = .returned (.int .i64 n2) ∧
                    R (.int .i64 n2) w7))
            (∃ (p3 : Option Addr),
              At Pr w5 (loadVar 41 a1) (.pointer p3) ∧
              ∃ (s2 : SV) (w8 : World),
              Sem.run Pr (Instr.buildSlice 201 5 #[(0, (.func (.func 114) #[] #[(.pointer (some a1))])), (1, (.func (.func 115) #[] #[(.pointer (some a1)), (.pointer (some a3))])), (2, (.func (.func 117) #[] #[(.pointer (some a1))])), (3, (.func (.func 118) #[] #[(.pointer (some a1)), (.pointer (some a2))])), (4, (.func (.func 55) #[(.pointer p3)] #[]))]) w5 = .ok (.slice s2.a s2.len s2.cap) w8 ∧
              Calls Pr 113 #[(.slice s2.a s2.len s2.cap)] w8 fun e4 w9 =>
                ∃ (n3 : Int),
                e4 = .returned (.int .i64 n3) ∧
                R (.int .i64 n3) w9))

theorem call48 {x0 : Option Addr} {x1 : ByteArray} {x2 : SV} {w0 : World} {R : Ending → World → Prop} (h : ir48 x0 x1 x2 w0 fun v w => R (.returned v) w) : Calls Pr 48 #[.pointer x0, .string x1, .slice x2.a x2.len x2.cap] w0 R := by
  refine calls_of_vc (ann := []) (E := []) (args := [.pointer x0, .string x1, .slice x2.a x2.len x2.cap]) follows Try.func48 rfl (by kernel_rfl) ?_
  apply by_eq h
  kernel_rfl

/-- creel/place.Grow -/
def ir58 (x0 : Option Addr) (x1 : ByteArray) (x2 : SV) (w0 : World) (R : Value → World → Prop) : Prop :=
  ∃ (a1 : Addr) (w1 : World),
  Sem.run Pr (Instr.box 41 (.pointer x0)) w0 = .ok (.pointer (some a1)) w1 ∧
  ∃ (a2 : Addr) (w2 : World),
  Sem.run Pr (Instr.box 9 (.string x1)) w1 = .ok (.pointer (some a2)) w2 ∧
  ∃ (a3 : Addr) (w3 : World),
  Sem.run Pr (Instr.box 26 (.slice x2.a x2.len x2.cap)) w2 = .ok (.pointer (some a3)) w3 ∧
  ∃ (str1 : ByteArray),
  At Pr w3 (loadVar 9 a2) (.string str1) ∧
  Calls Pr 112 #[(.string str1)] w3 fun e1 w4 =>
    ∃ (b1 : Bool),
    e1 = .returned (.bool b1) ∧
    brc (!b1)
      (R (.int .i64 1) w4)
      (∃ (s1 : SV) (w5 : World),
        Sem.run Pr (Instr.buildSlice 201 3 #[(0, (.func (.func 122) #[] #[(.pointer (some a1)), (.pointer (some a2))])), (1, (.func (.func 124) #[] #[(.pointer (some a1)), (.pointer (some a2)), (.pointer (some a3))])), (2, (.func (.func 125) #[] #[(.pointer (some a1)), (.pointer (some a2))]))]) w4 = .ok (.slice s1.a s1.len s1.cap) w5 ∧
        Calls Pr 113 #[(.slice s1.a s1.len s1.cap)] w5 fun e2 w6 =>
          ∃ (n1 : Int),
          e2 = .returned (.int .i64 n1) ∧
          R (.int .i64 n1) w6)

theorem call58 {x0 : Option Addr} {x1 : ByteArray} {x2 : SV} {w0 : World} {R : Ending → World → Prop} (h : ir58 x0 x1 x2 w0 fun v w => R (.returned v) w) : Calls Pr 58 #[.pointer x0, .string x1, .slice x2.a x2.len x2.cap] w0 R := by
  refine calls_of_vc (ann := []) (E := []) (args := [.pointer x0, .string x1, .slice x2.a x2.len x2.cap]) follows Try.func58 rfl (by kernel_rfl) ?_
  apply by_eq h
  kernel_rfl

/-- creel/place.Drop -/
def ir67 (x0 : Option Addr) (x1 : SV) (w0 : World) (R : Value → World → Prop) : Prop :=
  LoopT (σ := Int × Bool × Unit) (fun σ1 w1 K1 =>
    ∀ _ : Env,
    brc (decide (σ1.1 < ((x1.len : Nat) : Int)))
      (((0 : Int) ≤ σ1.1 ∧ σ1.1 < ((x1.len : Nat) : Int)) ∧
        optK x1.a fun a1 =>
          ∃ (str1 : ByteArray),
          At Pr w1 (loadVar 9 (Addr.add a1 (Int.toNat σ1.1 * 1))) (.string str1) ∧
          Calls Pr 86 #[(.pointer x0), (.string str1)] w1 fun e1 w2 =>
            ∃ (n1 : Int),
            e1 = .returned (.int .i64 n1) ∧
            brc (n1 == (0 : Int))
              (K1 (IntKind.wrap .i64 (σ1.1 + 1), true, ()) w2)
              (brc (n1 != (2 : Int))
                  (R (.int .i64 n1) w2)
                  (K1 (IntKind.wrap .i64 (σ1.1 + 1), σ1.2.1, ()) w2)))
      (brc (!σ1.2.1)
          (R (.int .i64 0) w1)
          (Calls Pr 55 #[(.pointer x0)] w1 fun e2 w3 =>
              ∃ (n2 : Int),
              e2 = .returned (.int .i64 n2) ∧
              R (.int .i64 n2) w3))) (0, false, ()) w0

theorem call67 {x0 : Option Addr} {x1 : SV} {w0 : World} {R : Ending → World → Prop} (h : ir67 x0 x1 w0 fun v w => R (.returned v) w) : Calls Pr 67 #[.pointer x0, .slice x1.a x1.len x1.cap] w0 R := by
  refine calls_of_vc (ann := [(3, [(11, .int .i64), (5, .bool)])]) (E := []) (args := [.pointer x0, .slice x1.a x1.len x1.cap]) follows Try.func67 rfl (by kernel_rfl) ?_
  apply by_eq h
  kernel_rfl

/-- creel/place.right -/
def ir112 (x0 : ByteArray) (w0 : World) (R : Value → World → Prop) : Prop :=
  brc (!(ByteArray.toList x0 == ByteArray.toList (⟨#[116, 109, 112]⟩ : ByteArray)))
    (brc (!(ByteArray.toList x0 == ByteArray.toList (⟨#[]⟩ : ByteArray)))
        (R (.bool (decide (((ByteArray.size x0 : Nat) : Int) ≤ (32 : Int)))) w0)
        (R (.bool false) w0))
    (R (.bool false) w0)

theorem call112 {x0 : ByteArray} {w0 : World} {R : Ending → World → Prop} (h : ir112 x0 w0 fun v w => R (.returned v) w) : Calls Pr 112 #[.string x0] w0 R := by
  refine calls_of_vc (ann := []) (E := []) (args := [.string x0]) follows Try.func112 rfl (by kernel_rfl) ?_
  apply by_eq h
  kernel_rfl

/-- creel/place.all -/
def ir113 (x0 : SV) (w0 : World) (R : Value → World → Prop) : Prop :=
  LoopT (σ := Int × Unit) (fun σ1 w1 K1 =>
    ∀ _ : Env,
    brc (decide (σ1.1 < ((x0.len : Nat) : Int)))
      (((0 : Int) ≤ σ1.1 ∧ σ1.1 < ((x0.len : Nat) : Int)) ∧
        optK x0.a fun a1 =>
          ∃ (f1 : FV),
          At Pr w1 (loadVar 89 (Addr.add a1 (Int.toNat σ1.1 * 1))) (.func f1.f f1.a f1.b) ∧
          callV Pr (.func f1.f f1.a f1.b) [] w1 fun e1 w2 =>
            ∃ (n1 : Int),
            e1 = .returned (.int .i64 n1) ∧
            brc (n1 != (0 : Int))
              (R (.int .i64 n1) w2)
              (K1 (IntKind.wrap .i64 (σ1.1 + 1), ()) w2))
      (R (.int .i64 0) w1)) (0, ()) w0

theorem call113 {x0 : SV} {w0 : World} {R : Ending → World → Prop} (h : ir113 x0 w0 fun v w => R (.returned v) w) : Calls Pr 113 #[.slice x0.a x0.len x0.cap] w0 R := by
  refine calls_of_vc (ann := [(2, [(8, .int .i64)])]) (E := []) (args := [.slice x0.a x0.len x0.cap]) follows Try.func113 rfl (by kernel_rfl) ?_
  apply by_eq h
  kernel_rfl

/-- creel/place.Put$1 -/
def ir114 (c0 : Addr) (w0 : World) (R : Value → World → Prop) : Prop :=
  ∃ (p1 : Option Addr),
  At Pr w0 (loadVar 41 c0) (.pointer p1) ∧
  Calls Pr 32 #[(.pointer p1), (.string (⟨#[116, 109, 112]⟩ : ByteArray))] w0 fun e1 w1 =>
    ∃ (n1 : Int),
    e1 = .returned (.int .i64 n1) ∧
    R (.int .i64 n1) w1

theorem call114 {c0 : Addr} {w0 : World} {R : Ending → World → Prop} (h : ir114 c0 w0 fun v w => R (.returned v) w) : Calls Pr 114 #[.pointer (some c0)] w0 R := by
  refine calls_of_vc (ann := []) (E := []) (args := [.pointer (some c0)]) follows Try.func114 rfl (by kernel_rfl) ?_
  apply by_eq h
  kernel_rfl

/-- creel/place.Put$2 -/
def ir115 (c0 : Addr) (c1 : Addr) (w0 : World) (R : Value → World → Prop) : Prop :=
  ∃ (p1 : Option Addr),
  At Pr w0 (loadVar 41 c0) (.pointer p1) ∧
  ∃ (s1 : SV),
  At Pr w0 (loadVar 26 c1) (.slice s1.a s1.len s1.cap) ∧
  Calls Pr 116 #[(.pointer p1), (.slice s1.a s1.len s1.cap)] w0 fun e1 w1 =>
    ∃ (n1 : Int),
    e1 = .returned (.int .i64 n1) ∧
    R (.int .i64 n1) w1

theorem call115 {c0 : Addr} {c1 : Addr} {w0 : World} {R : Ending → World → Prop} (h : ir115 c0 c1 w0 fun v w => R (.returned v) w) : Calls Pr 115 #[.pointer (some c0), .pointer (some c1)] w0 R := by
  refine calls_of_vc (ann := []) (E := []) (args := [.pointer (some c0), .pointer (some c1)]) follows Try.func115 rfl (by kernel_rfl) ?_
  apply by_eq h
  kernel_rfl

/-- creel/place.Put$3 -/
def ir117 (c0 : Addr) (w0 : World) (R : Value → World → Prop) : Prop :=
  ∃ (p1 : Option Addr),
  At Pr w0 (loadVar 41 c0) (.pointer p1) ∧
  Calls Pr 57 #[(.pointer p1), (.string (⟨#[116, 109, 112]⟩ : ByteArray))] w0 fun e1 w1 =>
    ∃ (n1 : Int),
    e1 = .returned (.int .i64 n1) ∧
    R (.int .i64 n1) w1

theorem call117 {c0 : Addr} {w0 : World} {R : Ending → World → Prop} (h : ir117 c0 w0 fun v w => R (.returned v) w) : Calls Pr 117 #[.pointer (some c0)] w0 R := by
  refine calls_of_vc (ann := []) (E := []) (args := [.pointer (some c0)]) follows Try.func117 rfl (by kernel_rfl) ?_
  apply by_eq h
  kernel_rfl

/-- creel/place.Put$4 -/
def ir118 (c0 : Addr) (c1 : Addr) (w0 : World) (R : Value → World → Prop) : Prop :=
  ∃ (p1 : Option Addr),
  At Pr w0 (loadVar 41 c0) (.pointer p1) ∧
  ∃ (str1 : ByteArray),
  At Pr w0 (loadVar 9 c1) (.string str1) ∧
  Calls Pr 85 #[(.pointer p1), (.string (⟨#[116, 109, 112]⟩ : ByteArray)), (.string str1)] w0 fun e1 w1 =>
    ∃ (n1 : Int),
    e1 = .returned (.int .i64 n1) ∧
    R (.int .i64 n1) w1

theorem call118 {c0 : Addr} {c1 : Addr} {w0 : World} {R : Ending → World → Prop} (h : ir118 c0 c1 w0 fun v w => R (.returned v) w) : Calls Pr 118 #[.pointer (some c0), .pointer (some c1)] w0 R := by
  refine calls_of_vc (ann := []) (E := []) (args := [.pointer (some c0), .pointer (some c1)]) follows Try.func118 rfl (by kernel_rfl) ?_
  apply by_eq h
  kernel_rfl

/-- creel/place.Grow$1 -/
def ir122 (c0 : Addr) (c1 : Addr) (w0 : World) (R : Value → World → Prop) : Prop :=
  ∃ (p1 : Option Addr),
  At Pr w0 (loadVar 41 c0) (.pointer p1) ∧
  ∃ (str1 : ByteArray),
  At Pr w0 (loadVar 9 c1) (.string str1) ∧
  Calls Pr 123 #[(.pointer p1), (.string str1)] w0 fun e1 w1 =>
    ∃ (n1 : Int),
    e1 = .returned (.int .i64 n1) ∧
    R (.int .i64 n1) w1

theorem call122 {c0 : Addr} {c1 : Addr} {w0 : World} {R : Ending → World → Prop} (h : ir122 c0 c1 w0 fun v w => R (.returned v) w) : Calls Pr 122 #[.pointer (some c0), .pointer (some c1)] w0 R := by
  refine calls_of_vc (ann := []) (E := []) (args := [.pointer (some c0), .pointer (some c1)]) follows Try.func122 rfl (by kernel_rfl) ?_
  apply by_eq h
  kernel_rfl

/-- creel/place.made -/
def ir123 (x0 : Option Addr) (x1 : ByteArray) (w0 : World) (R : Value → World → Prop) : Prop :=
  Calls Pr 32 #[(.pointer x0), (.string x1)] w0 fun e1 w1 =>
    ∃ (n1 : Int),
    e1 = .returned (.int .i64 n1) ∧
    brc (n1 == (0 : Int))
      (Calls Pr 55 #[(.pointer x0)] w1 fun e2 w2 =>
          ∃ (n2 : Int),
          e2 = .returned (.int .i64 n2) ∧
          R (.int .i64 n2) w2)
      (brc (n1 == (4 : Int))
          (R (.int .i64 0) w1)
          (R (.int .i64 n1) w1))

theorem call123 {x0 : Option Addr} {x1 : ByteArray} {w0 : World} {R : Ending → World → Prop} (h : ir123 x0 x1 w0 fun v w => R (.returned v) w) : Calls Pr 123 #[.pointer x0, .string x1] w0 R := by
  refine calls_of_vc (ann := []) (E := []) (args := [.pointer x0, .string x1]) follows Try.func123 rfl (by kernel_rfl) ?_
  apply by_eq h
  kernel_rfl

/-- creel/place.Grow$2 -/
def ir124 (c0 : Addr) (c1 : Addr) (c2 : Addr) (w0 : World) (R : Value → World → Prop) : Prop :=
  ∃ (p1 : Option Addr),
  At Pr w0 (loadVar 41 c0) (.pointer p1) ∧
  ∃ (str1 : ByteArray),
  At Pr w0 (loadVar 9 c1) (.string str1) ∧
  ∃ (s1 : SV),
  At Pr w0 (loadVar 26 c2) (.slice s1.a s1.len s1.cap) ∧
  Calls Pr 33 #[(.pointer p1), (.string str1), (.slice s1.a s1.len s1.cap)] w0 fun e1 w1 =>
    ∃ (n1 : Int),
    e1 = .returned (.int .i64 n1) ∧
    R (.int .i64 n1) w1

theorem call124 {c0 : Addr} {c1 : Addr} {c2 : Addr} {w0 : World} {R : Ending → World → Prop} (h : ir124 c0 c1 c2 w0 fun v w => R (.returned v) w) : Calls Pr 124 #[.pointer (some c0), .pointer (some c1), .pointer (some c2)] w0 R := by
  refine calls_of_vc (ann := []) (E := []) (args := [.pointer (some c0), .pointer (some c1), .pointer (some c2)]) follows Try.func124 rfl (by kernel_rfl) ?_
  apply by_eq h
  kernel_rfl

/-- creel/place.Grow$3 -/
def ir125 (c0 : Addr) (c1 : Addr) (w0 : World) (R : Value → World → Prop) : Prop :=
  ∃ (p1 : Option Addr),
  At Pr w0 (loadVar 41 c0) (.pointer p1) ∧
  ∃ (str1 : ByteArray),
  At Pr w0 (loadVar 9 c1) (.string str1) ∧
  Calls Pr 57 #[(.pointer p1), (.string str1)] w0 fun e1 w1 =>
    ∃ (n1 : Int),
    e1 = .returned (.int .i64 n1) ∧
    R (.int .i64 n1) w1

theorem call125 {c0 : Addr} {c1 : Addr} {w0 : World} {R : Ending → World → Prop} (h : ir125 c0 c1 w0 fun v w => R (.returned v) w) : Calls Pr 125 #[.pointer (some c0), .pointer (some c1)] w0 R := by
  refine calls_of_vc (ann := []) (E := []) (args := [.pointer (some c0), .pointer (some c1)]) follows Try.func125 rfl (by kernel_rfl) ?_
  apply by_eq h
  kernel_rfl

/-- creel/creelref05.Put -/
def ir119 (x0 : Option Addr) (x1 : ByteArray) (x2 : SV) (w0 : World) (R : Value → World → Prop) : Prop :=
  Calls Pr 148 #[(.string x1)] w0 fun e1 w1 =>
    ∃ (b1 : Bool),
    e1 = .returned (.bool b1) ∧
    brc (!b1)
      (R (.int .i64 1) w1)
      (Calls Pr 99 #[(.pointer x0), (.string (⟨#[116, 109, 112]⟩ : ByteArray))] w1 fun e2 w2 =>
          ∃ (n1 : Int),
          e2 = .returned (.int .i64 n1) ∧
          Calls Pr 149 #[(.int .i64 n1), (.int .i64 2)] w2 fun e3 w3 =>
            ∃ (n2 : Int),
            e3 = .returned (.int .i64 n2) ∧
            brc (n2 == (0 : Int))
              (Calls Pr 96 #[(.pointer x0), (.string (⟨#[116, 109, 112]⟩ : ByteArray))] w3 fun e4 w4 =>
                  ∃ (n3 : Int),
                  e4 = .returned (.int .i64 n3) ∧
                  LoopT (σ := Int × Int × Unit) (fun σ1 w5 K1 =>
                    ∀ _ : Env,
                    brc (decide (σ1.1 < ((x2.len : Nat) : Int)))
                      (brc (σ1.2.1 == (0 : Int))
                          (((0 : Int) ≤ (if ((x2.len : Nat) : Int) < (IntKind.wrap .i64 (σ1.1 + 64)) then ((x2.len : Nat) : Int) else (IntKind.wrap .i64 (σ1.1 + 64))) ∧ (if ((x2.len : Nat) : Int) < (IntKind.wrap .i64 (σ1.1 + 64)) then ((x2.len : Nat) : Int) else (IntKind.wrap .i64 (σ1.1 + 64))) ≤ ((x2.cap : Nat) : Int)) ∧
                            ((0 : Int) ≤ σ1.1 ∧ σ1.1 ≤ ((Int.toNat (if ((x2.len : Nat) : Int) < (IntKind.wrap .i64 (σ1.1 + 64)) then ((x2.len : Nat) : Int) else (IntKind.wrap .i64 (σ1.1 + 64))) : Nat) : Int)) ∧
                            Calls Pr 103 #[(.pointer x0), (.string (⟨#[116, 109, 112]⟩ : ByteArray)), (.slice (cutAt x2.a (Int.toNat σ1.1) x2.cap 1) ((Int.toNat (if ((x2.len : Nat) : Int) < (IntKind.wrap .i64 (σ1.1 + 64)) then ((x2.len : Nat) : Int) else (IntKind.wrap .i64 (σ1.1 + 64)))) - (Int.toNat σ1.1)) (x2.cap - (Int.toNat σ1.1)))] w5 fun e5 w6 =>
                              ∃ (n4 : Int),
                              e5 = .returned (.int .i64 n4) ∧
                              K1 (IntKind.wrap .i64 (σ1.1 + 64), n4, ()) w6)
                          (brc (σ1.2.1 == (0 : Int))
                              (Calls Pr 97 #[(.pointer x0), (.string (⟨#[116, 109, 112]⟩ : ByteArray))] w5 fun e6 w7 =>
                                  ∃ (n5 : Int),
                                  e6 = .returned (.int .i64 n5) ∧
                                  brc (n5 == (0 : Int))
                                    (Calls Pr 98 #[(.pointer x0), (.string (⟨#[116, 109, 112]⟩ : ByteArray)), (.string x1)] w7 fun e7 w8 =>
                                        ∃ (n6 : Int),
                                        e7 = .returned (.int .i64 n6) ∧
                                        brc (n6 == (0 : Int))
                                          (Calls Pr 100 #[(.pointer x0)] w8 fun e8 w9 =>
                                              ∃ (n7 : Int),
                                              e8 = .returned (.int .i64 n7) ∧
                                              R (.int .i64 n7) w9)
                                          (R (.int .i64 n6) w8))
                                    (brc (n5 == (0 : Int))
                                        (Calls Pr 100 #[(.pointer x0)] w7 fun e9 w10 =>
                                            ∃ (n8 : Int),
                                            e9 = .returned (.int .i64 n8) ∧
                                            R (.int .i64 n8) w10)
                                        (R (.int .i64 n5) w7)))
                              (brc (σ1.2.1 == (0 : Int))
                                  (Calls Pr 98 #[(.pointer x0), (.string (⟨#[116, 109, 112]⟩ : ByteArray)), (.string x1)] w5 fun e10 w11 =>
                                      ∃ (n9 : Int),
                                      e10 = .returned (.int .i64 n9) ∧
                                      brc (n9 == (0 : Int))
                                        (Calls Pr 100 #[(.pointer x0)] w11 fun e11 w12 =>
                                            ∃ (n10 : Int),
                                            e11 = .returned (.int .i64 n10) ∧
                                            R (.int .i64 n10) w12)
                                        (R (.int .i64 n9) w11))
                                  (brc (σ1.2.1 == (0 : Int))
                                      (Calls Pr 100 #[(.pointer x0)] w5 fun e12 w13 =>
                                          ∃ (n11 : Int),
                                          e12 = .returned (.int .i64 n11) ∧
                                          R (.int .i64 n11) w13)
                                      (R (.int .i64 σ1.2.1) w5)))))
                      (brc (σ1.2.1 == (0 : Int))
                          (Calls Pr 97 #[(.pointer x0), (.string (⟨#[116, 109, 112]⟩ : ByteArray))] w5 fun e13 w14 =>
                              ∃ (n12 : Int),
                              e13 = .returned (.int .i64 n12) ∧
                              brc (n12 == (0 : Int))
                                (Calls Pr 98 #[(.pointer x0), (.string (⟨#[116, 109, 112]⟩ : ByteArray)), (.string x1)] w14 fun e14 w15 =>
                                    ∃ (n13 : Int),
                                    e14 = .returned (.int .i64 n13) ∧
                                    brc (n13 == (0 : Int))
                                      (Calls Pr 100 #[(.pointer x0)] w15 fun e15 w16 =>
                                          ∃ (n14 : Int),
                                          e15 = .returned (.int .i64 n14) ∧
                                          R (.int .i64 n14) w16)
                                      (R (.int .i64 n13) w15))
                                (brc (n12 == (0 : Int))
                                    (Calls Pr 100 #[(.pointer x0)] w14 fun e16 w17 =>
                                        ∃ (n15 : Int),
                                        e16 = .returned (.int .i64 n15) ∧
                                        R (.int .i64 n15) w17)
                                    (R (.int .i64 n12) w14)))
                          (brc (σ1.2.1 == (0 : Int))
                              (Calls Pr 98 #[(.pointer x0), (.string (⟨#[116, 109, 112]⟩ : ByteArray)), (.string x1)] w5 fun e17 w18 =>
                                  ∃ (n16 : Int),
                                  e17 = .returned (.int .i64 n16) ∧
                                  brc (n16 == (0 : Int))
                                    (Calls Pr 100 #[(.pointer x0)] w18 fun e18 w19 =>
                                        ∃ (n17 : Int),
                                        e18 = .returned (.int .i64 n17) ∧
                                        R (.int .i64 n17) w19)
                                    (R (.int .i64 n16) w18))
                              (brc (σ1.2.1 == (0 : Int))
                                  (Calls Pr 100 #[(.pointer x0)] w5 fun e19 w20 =>
                                      ∃ (n18 : Int),
                                      e19 = .returned (.int .i64 n18) ∧
                                      R (.int .i64 n18) w20)
                                  (R (.int .i64 σ1.2.1) w5))))) (0, n3, ()) w4)
              (LoopT (σ := Int × Int × Unit) (fun σ2 w21 K2 =>
                  ∀ _ : Env,
                  brc (decide (σ2.1 < ((x2.len : Nat) : Int)))
                    (brc (σ2.2.1 == (0 : Int))
                        (((0 : Int) ≤ (if ((x2.len : Nat) : Int) < (IntKind.wrap .i64 (σ2.1 + 64)) then ((x2.len : Nat) : Int) else (IntKind.wrap .i64 (σ2.1 + 64))) ∧ (if ((x2.len : Nat) : Int) < (IntKind.wrap .i64 (σ2.1 + 64)) then ((x2.len : Nat) : Int) else (IntKind.wrap .i64 (σ2.1 + 64))) ≤ ((x2.cap : Nat) : Int)) ∧
                          ((0 : Int) ≤ σ2.1 ∧ σ2.1 ≤ ((Int.toNat (if ((x2.len : Nat) : Int) < (IntKind.wrap .i64 (σ2.1 + 64)) then ((x2.len : Nat) : Int) else (IntKind.wrap .i64 (σ2.1 + 64))) : Nat) : Int)) ∧
                          Calls Pr 103 #[(.pointer x0), (.string (⟨#[116, 109, 112]⟩ : ByteArray)), (.slice (cutAt x2.a (Int.toNat σ2.1) x2.cap 1) ((Int.toNat (if ((x2.len : Nat) : Int) < (IntKind.wrap .i64 (σ2.1 + 64)) then ((x2.len : Nat) : Int) else (IntKind.wrap .i64 (σ2.1 + 64)))) - (Int.toNat σ2.1)) (x2.cap - (Int.toNat σ2.1)))] w21 fun e20 w22 =>
                            ∃ (n19 : Int),
                            e20 = .returned (.int .i64 n19) ∧
                            K2 (IntKind.wrap .i64 (σ2.1 + 64), n19, ()) w22)
                        (brc (σ2.2.1 == (0 : Int))
                            (Calls Pr 97 #[(.pointer x0), (.string (⟨#[116, 109, 112]⟩ : ByteArray))] w21 fun e21 w23 =>
                                ∃ (n20 : Int),
                                e21 = .returned (.int .i64 n20) ∧
                                brc (n20 == (0 : Int))
                                  (Calls Pr 98 #[(.pointer x0), (.string (⟨#[116, 109, 112]⟩ : ByteArray)), (.string x1)] w23 fun e22 w24 =>
                                      ∃ (n21 : Int),
                                      e22 = .returned (.int .i64 n21) ∧
                                      brc (n21 == (0 : Int))
                                        (Calls Pr 100 #[(.pointer x0)] w24 fun e23 w25 =>
                                            ∃ (n22 : Int),
                                            e23 = .returned (.int .i64 n22) ∧
                                            R (.int .i64 n22) w25)
                                        (R (.int .i64 n21) w24))
                                  (brc (n20 == (0 : Int))
                                      (Calls Pr 100 #[(.pointer x0)] w23 fun e24 w26 =>
                                          ∃ (n23 : Int),
                                          e24 = .returned (.int .i64 n23) ∧
                                          R (.int .i64 n23) w26)
                                      (R (.int .i64 n20) w23)))
                            (brc (σ2.2.1 == (0 : Int))
                                (Calls Pr 98 #[(.pointer x0), (.string (⟨#[116, 109, 112]⟩ : ByteArray)), (.string x1)] w21 fun e25 w27 =>
                                    ∃ (n24 : Int),
                                    e25 = .returned (.int .i64 n24) ∧
                                    brc (n24 == (0 : Int))
                                      (Calls Pr 100 #[(.pointer x0)] w27 fun e26 w28 =>
                                          ∃ (n25 : Int),
                                          e26 = .returned (.int .i64 n25) ∧
                                          R (.int .i64 n25) w28)
                                      (R (.int .i64 n24) w27))
                                (brc (σ2.2.1 == (0 : Int))
                                    (Calls Pr 100 #[(.pointer x0)] w21 fun e27 w29 =>
                                        ∃ (n26 : Int),
                                        e27 = .returned (.int .i64 n26) ∧
                                        R (.int .i64 n26) w29)
                                    (R (.int .i64 σ2.2.1) w21)))))
                    (brc (σ2.2.1 == (0 : Int))
                        (Calls Pr 97 #[(.pointer x0), (.string (⟨#[116, 109, 112]⟩ : ByteArray))] w21 fun e28 w30 =>
                            ∃ (n27 : Int),
                            e28 = .returned (.int .i64 n27) ∧
                            brc (n27 == (0 : Int))
                              (Calls Pr 98 #[(.pointer x0), (.string (⟨#[116, 109, 112]⟩ : ByteArray)), (.string x1)] w30 fun e29 w31 =>
                                  ∃ (n28 : Int),
                                  e29 = .returned (.int .i64 n28) ∧
                                  brc (n28 == (0 : Int))
                                    (Calls Pr 100 #[(.pointer x0)] w31 fun e30 w32 =>
                                        ∃ (n29 : Int),
                                        e30 = .returned (.int .i64 n29) ∧
                                        R (.int .i64 n29) w32)
                                    (R (.int .i64 n28) w31))
                              (brc (n27 == (0 : Int))
                                  (Calls Pr 100 #[(.pointer x0)] w30 fun e31 w33 =>
                                      ∃ (n30 : Int),
                                      e31 = .returned (.int .i64 n30) ∧
                                      R (.int .i64 n30) w33)
                                  (R (.int .i64 n27) w30)))
                        (brc (σ2.2.1 == (0 : Int))
                            (Calls Pr 98 #[(.pointer x0), (.string (⟨#[116, 109, 112]⟩ : ByteArray)), (.string x1)] w21 fun e32 w34 =>
                                ∃ (n31 : Int),
                                e32 = .returned (.int .i64 n31) ∧
                                brc (n31 == (0 : Int))
                                  (Calls Pr 100 #[(.pointer x0)] w34 fun e33 w35 =>
                                      ∃ (n32 : Int),
                                      e33 = .returned (.int .i64 n32) ∧
                                      R (.int .i64 n32) w35)
                                  (R (.int .i64 n31) w34))
                            (brc (σ2.2.1 == (0 : Int))
                                (Calls Pr 100 #[(.pointer x0)] w21 fun e34 w36 =>
                                    ∃ (n33 : Int),
                                    e34 = .returned (.int .i64 n33) ∧
                                    R (.int .i64 n33) w36)
                                (R (.int .i64 σ2.2.1) w21))))) (0, n2, ()) w3))

theorem call119 {x0 : Option Addr} {x1 : ByteArray} {x2 : SV} {w0 : World} {R : Ending → World → Prop} (h : ir119 x0 x1 x2 w0 fun v w => R (.returned v) w) : Calls Pr 119 #[.pointer x0, .string x1, .slice x2.a x2.len x2.cap] w0 R := by
  refine calls_of_vc (ann := [(7, [(8, .int .i64), (7, .int .i64)])]) (E := []) (args := [.pointer x0, .string x1, .slice x2.a x2.len x2.cap]) follows Try.func119 rfl (by kernel_rfl) ?_
  apply by_eq h
  kernel_rfl

/-- creel/creelref05.Grow -/
def ir120 (x0 : Option Addr) (x1 : ByteArray) (x2 : SV) (w0 : World) (R : Value → World → Prop) : Prop :=
  Calls Pr 148 #[(.string x1)] w0 fun e1 w1 =>
    ∃ (b1 : Bool),
    e1 = .returned (.bool b1) ∧
    brc (!b1)
      (R (.int .i64 1) w1)
      (Calls Pr 96 #[(.pointer x0), (.string x1)] w1 fun e2 w2 =>
          ∃ (n1 : Int),
          e2 = .returned (.int .i64 n1) ∧
          brc (n1 == (0 : Int))
            (Calls Pr 100 #[(.pointer x0)] w2 fun e3 w3 =>
                ∃ (n2 : Int),
                e3 = .returned (.int .i64 n2) ∧
                Calls Pr 149 #[(.int .i64 n2), (.int .i64 4)] w3 fun e4 w4 =>
                  ∃ (n3 : Int),
                  e4 = .returned (.int .i64 n3) ∧
                  brc (n3 == (0 : Int))
                    (Calls Pr 103 #[(.pointer x0), (.string x1), (.slice x2.a x2.len x2.cap)] w4 fun e5 w5 =>
                        ∃ (n4 : Int),
                        e5 = .returned (.int .i64 n4) ∧
                        brc (n4 == (0 : Int))
                          (Calls Pr 97 #[(.pointer x0), (.string x1)] w5 fun e6 w6 =>
                              ∃ (n5 : Int),
                              e6 = .returned (.int .i64 n5) ∧
                              R (.int .i64 n5) w6)
                          (R (.int .i64 n4) w5))
                    (brc (n3 == (0 : Int))
                        (Calls Pr 97 #[(.pointer x0), (.string x1)] w4 fun e7 w7 =>
                            ∃ (n6 : Int),
                            e7 = .returned (.int .i64 n6) ∧
                            R (.int .i64 n6) w7)
                        (R (.int .i64 n3) w4)))
            (Calls Pr 149 #[(.int .i64 n1), (.int .i64 4)] w2 fun e8 w8 =>
                ∃ (n7 : Int),
                e8 = .returned (.int .i64 n7) ∧
                brc (n7 == (0 : Int))
                  (Calls Pr 103 #[(.pointer x0), (.string x1), (.slice x2.a x2.len x2.cap)] w8 fun e9 w9 =>
                      ∃ (n8 : Int),
                      e9 = .returned (.int .i64 n8) ∧
                      brc (n8 == (0 : Int))
                        (Calls Pr 97 #[(.pointer x0), (.string x1)] w9 fun e10 w10 =>
                            ∃ (n9 : Int),
                            e10 = .returned (.int .i64 n9) ∧
                            R (.int .i64 n9) w10)
                        (R (.int .i64 n8) w9))
                  (brc (n7 == (0 : Int))
                      (Calls Pr 97 #[(.pointer x0), (.string x1)] w8 fun e11 w11 =>
                          ∃ (n10 : Int),
                          e11 = .returned (.int .i64 n10) ∧
                          R (.int .i64 n10) w11)
                      (R (.int .i64 n7) w8))))

theorem call120 {x0 : Option Addr} {x1 : ByteArray} {x2 : SV} {w0 : World} {R : Ending → World → Prop} (h : ir120 x0 x1 x2 w0 fun v w => R (.returned v) w) : Calls Pr 120 #[.pointer x0, .string x1, .slice x2.a x2.len x2.cap] w0 R := by
  refine calls_of_vc (ann := []) (E := []) (args := [.pointer x0, .string x1, .slice x2.a x2.len x2.cap]) follows Try.func120 rfl (by kernel_rfl) ?_
  apply by_eq h
  kernel_rfl

/-- creel/creelref05.Drop -/
def ir121 (x0 : Option Addr) (x1 : SV) (w0 : World) (R : Value → World → Prop) : Prop :=
  LoopT (σ := Int × Bool × Unit) (fun σ1 w1 K1 =>
    ∀ _ : Env,
    brc (decide (σ1.1 < ((x1.len : Nat) : Int)))
      (((0 : Int) ≤ σ1.1 ∧ σ1.1 < ((x1.len : Nat) : Int)) ∧
        optK x1.a fun a1 =>
          ∃ (str1 : ByteArray),
          At Pr w1 (loadVar 9 (Addr.add a1 (Int.toNat σ1.1 * 1))) (.string str1) ∧
          Calls Pr 99 #[(.pointer x0), (.string str1)] w1 fun e1 w2 =>
            ∃ (n1 : Int),
            e1 = .returned (.int .i64 n1) ∧
            brc (n1 != (0 : Int))
              (brc (n1 != (2 : Int))
                  (R (.int .i64 n1) w2)
                  (brc (σ1.2.1)
                      (K1 (IntKind.wrap .i64 (σ1.1 + 1), true, ()) w2)
                      (K1 (IntKind.wrap .i64 (σ1.1 + 1), n1 == (0 : Int), ()) w2)))
              (brc (σ1.2.1)
                  (K1 (IntKind.wrap .i64 (σ1.1 + 1), true, ()) w2)
                  (K1 (IntKind.wrap .i64 (σ1.1 + 1), n1 == (0 : Int), ()) w2)))
      (brc (!σ1.2.1)
          (R (.int .i64 0) w1)
          (Calls Pr 100 #[(.pointer x0)] w1 fun e2 w3 =>
              ∃ (n2 : Int),
              e2 = .returned (.int .i64 n2) ∧
              R (.int .i64 n2) w3))) (0, false, ()) w0

theorem call121 {x0 : Option Addr} {x1 : SV} {w0 : World} {R : Ending → World → Prop} (h : ir121 x0 x1 w0 fun v w => R (.returned v) w) : Calls Pr 121 #[.pointer x0, .slice x1.a x1.len x1.cap] w0 R := by
  refine calls_of_vc (ann := [(3, [(6, .int .i64), (5, .bool)])]) (E := []) (args := [.pointer x0, .slice x1.a x1.len x1.cap]) follows Try.func121 rfl (by kernel_rfl) ?_
  apply by_eq h
  kernel_rfl

/-- creel/creelref05.right -/
def ir148 (x0 : ByteArray) (w0 : World) (R : Value → World → Prop) : Prop :=
  brc (!(ByteArray.toList x0 == ByteArray.toList (⟨#[116, 109, 112]⟩ : ByteArray)))
    (brc (decide (((ByteArray.size x0 : Nat) : Int) ≥ (1 : Int)))
        (R (.bool (decide (((ByteArray.size x0 : Nat) : Int) ≤ (32 : Int)))) w0)
        (R (.bool false) w0))
    (R (.bool false) w0)

theorem call148 {x0 : ByteArray} {w0 : World} {R : Ending → World → Prop} (h : ir148 x0 w0 fun v w => R (.returned v) w) : Calls Pr 148 #[.string x0] w0 R := by
  refine calls_of_vc (ann := []) (E := []) (args := [.string x0]) follows Try.func148 rfl (by kernel_rfl) ?_
  apply by_eq h
  kernel_rfl

/-- creel/creelref05.but -/
def ir149 (x0 : Int) (x1 : Int) (w0 : World) (R : Value → World → Prop) : Prop :=
  brc (x0 == x1)
    (R (.int .i64 0) w0)
    (R (.int .i64 x0) w0)

theorem call149 {x0 : Int} {x1 : Int} {w0 : World} {R : Ending → World → Prop} (h : ir149 x0 x1 w0 fun v w => R (.returned v) w) : Calls Pr 149 #[.int .i64 x0, .int .i64 x1] w0 R := by
  refine calls_of_vc (ann := []) (E := []) (args := [.int .i64 x0, .int .i64 x1]) follows Try.func149 rfl (by kernel_rfl) ?_
  apply by_eq h
  kernel_rfl

end Go.Proofs.Ytonjaaljnjjjcaa

/- What 'vc' of these functions comes to, and their calls by it. Printed by dec.py. -/
set_option linter.unusedVariables false
set_option linter.unusedSimpArgs false
namespace Go.Proofs.Ytonjaaljnjjjcaa
open Go

/-- creel/creellaw13.RunBack -/
def ir5 (x0 : SV) (w0 : World) (R : Value → World → Prop) : Prop :=
  ∃ (a1 : Addr) (w1 : World),
  Sem.run Pr (Instr.alloc 4 true (.tuple #[])) w0 = .ok (.pointer (some a1)) w1 ∧
  Calls Pr 20 #[] w1 fun e1 w2 =>
    ∃ (b1 : Bool),
    e1 = .returned (.bool b1) ∧
    Calls Pr 25 #[(.int .i64 10000)] w2 fun e2 w3 =>
      ∃ (p1 : Option Addr),
      e2 = .returned (.pointer p1) ∧
      Calls Pr 26 #[(.slice x0.a x0.len x0.cap)] w3 fun e3 w4 =>
        ∃ (s1 : SV),
        e3 = .returned (.slice s1.a s1.len s1.cap) ∧
        ∃ (a2 : Addr) (w5 : World),
        Sem.run Pr (Instr.alloc 22 true (.tuple #[])) w4 = .ok (.pointer (some a2)) w5 ∧
        ∃ (w6 : World),
        Sem.run Pr (Instr.storeAt 22 (.pointer (some a2)) (.slice s1.a s1.len s1.cap)) w5 = .ok () w6 ∧
        Calls Pr 27 #[(.pointer p1)] w6 fun e4 w7 =>
          ∃ (p2 : Option Addr) (n1 : Int),
          e4 = .returned (.tuple #[(.pointer p2), (.int .i64 n1)]) ∧
          brc (Option.isNone p2)
            (∃ (w8 : World),
              Sem.run Pr (Instr.storeAt 4 (.pointer (some a1)) (.bool false)) w7 = .ok () w8 ∧
              ∃ (b2 : Bool),
              At Pr w8 (loadVar 4 a1) (.bool b2) ∧
              R (.bool b2) w8)
            (brc (n1 != (0 : Int))
                (∃ (w9 : World),
                  Sem.run Pr (Instr.storeAt 4 (.pointer (some a1)) (.bool false)) w7 = .ok () w9 ∧
                  ∃ (b3 : Bool),
                  At Pr w9 (loadVar 4 a1) (.bool b3) ∧
                  R (.bool b3) w9)
                (∃ (s2 : SV),
                  At Pr w7 (loadVar 22 a2) (.slice s2.a s2.len s2.cap) ∧
                  LoopT (σ := Int × Unit) (fun σ1 w10 K1 =>
                    ∀ _ : Env,
                    brc (decide (σ1.1 < ((s2.len : Nat) : Int)))
                      (((0 : Int) ≤ σ1.1 ∧ σ1.1 < ((s2.len : Nat) : Int)) ∧
                        optK s2.a fun a3 =>
                          ∃ (s3 : SV),
                          At Pr w10 (loadVar 26 (Addr.add a3 (Int.toNat σ1.1 * 1))) (.slice s3.a s3.len s3.cap) ∧
                          Calls Pr 22 #[(.pointer p2), (.slice s3.a s3.len s3.cap)] w10 fun e5 w11 =>
                            ∃ (n2 : Int),
                            e5 = .returned (.int .i64 n2) ∧
                            brc (n2 != (0 : Int))
                              (∃ (w12 : World),
                                Sem.run Pr (Instr.storeAt 4 (.pointer (some a1)) (.bool false)) w11 = .ok () w12 ∧
                                ∃ (b4 : Bool),
                                At Pr w12 (loadVar 4 a1) (.bool b4) ∧
                                R (.bool b4) w12)
                              (K1 (IntKind.wrap .i64 (σ1.1 + 1), ()) w11))
                      (∃ (S1 : World → Prop),
                        S1 (World.drew w10) ∧
                        Calls Pr 23 #[(.pointer p2), (.string (⟨#[114, 117, 110]⟩ : ByteArray))] (World.drew w10) fun e6 w13 =>
                          ∃ (n3 : Int),
                          e6 = .returned (.int .i64 n3) ∧
                          ∃ (S2 : World → Prop),
                          S2 w13 ∧
                          brc (n3 != (0 : Int))
                            (∃ (w14 : World),
                              Sem.run Pr (Instr.storeAt 4 (.pointer (some a1)) (.bool false)) w13 = .ok () w14 ∧
                              ∃ (b5 : Bool),
                              At Pr w14 (loadVar 4 a1) (.bool b5) ∧
                              R (.bool b5) w14)
                            (∃ (s4 : SV),
                              AtS Pr S2 (loadVar 22 a2) (.slice s4.a s4.len s4.cap) ∧
                              Calls Pr 24 #[(.pointer p2)] w13 fun e7 w15 =>
                                ∃ (n4 : Int),
                                e7 = .returned (.int .i64 n4) ∧
                                ∃ (S3 : World → Prop),
                                (∀ w, S3 w → S2 w) ∧
                                S3 w15 ∧
                                brc (n4 != ((s4.len : Nat) : Int))
                                  (∃ (w16 : World),
                                    Sem.run Pr (Instr.storeAt 4 (.pointer (some a1)) (.bool false)) w15 = .ok () w16 ∧
                                    ∃ (b6 : Bool),
                                    At Pr w16 (loadVar 4 a1) (.bool b6) ∧
                                    R (.bool b6) w16)
                                  (Calls Pr 28 #[(.pointer p1), (.string (⟨#[114, 117, 110]⟩ : ByteArray))] w15 fun e8 w17 =>
                                      ∃ (s5 : SV) (n5 : Int),
                                      e8 = .returned (.tuple #[(.slice s5.a s5.len s5.cap), (.int .i64 n5)]) ∧
                                      ∃ (a4 : Addr) (w18 : World),
                                      Sem.run Pr (Instr.alloc 22 true (.tuple #[])) w17 = .ok (.pointer (some a4)) w18 ∧
                                      Calls Pr 29 #[(.slice s5.a s5.len s5.cap)] w18 fun e9 w19 =>
                                        ∃ (f1 : FV),
                                        e9 = .returned (.func f1.f f1.a f1.b) ∧
                                        rangeV Pr (.func f1.f f1.a f1.b) w19
                                          (fun X1 l1 =>
                                            ∀ (s6 : SV) (n6 : Int) (w20 : World) (Q1 : RPost),
                                            (∃ (w21 : World),
                                              Sem.run Pr (Instr.beginRound l1) w20 = .ok () w21 ∧
                                              brc (n6 != (0 : Int))
                                                (∃ (w22 : World),
                                                  Sem.run Pr (Instr.storeAt 4 (.pointer (some a1)) (.bool false)) w21 = .ok () w22 ∧
                                                  RPost.ret Q1 w22)
                                                (∃ (s7 : SV),
                                                  At Pr w21 (loadVar 22 a4) (.slice s7.a s7.len s7.cap) ∧
                                                  ∃ (s8 : SV),
                                                  At Pr w21 (loadVar 22 a2) (.slice s8.a s8.len s8.cap) ∧
                                                  brc (decide (((s7.len : Nat) : Int) > ((s8.len : Nat) : Int)))
                                                    (∃ (w23 : World),
                                                      Sem.run Pr (Instr.storeAt 4 (.pointer (some a1)) (.bool false)) w21 = .ok () w23 ∧
                                                      RPost.ret Q1 w23)
                                                    (∃ (s9 : SV),
                                                      At Pr w21 (loadVar 22 a4) (.slice s9.a s9.len s9.cap) ∧
                                                      ∃ (s10 : SV) (w24 : World),
                                                      Sem.run Pr (Instr.buildSlice 22 1 #[(0, (.slice s6.a s6.len s6.cap))]) w21 = .ok (.slice s10.a s10.len s10.cap) w24 ∧
                                                      ∃ (s11 : SV) (w25 : World),
                                                      Sem.run Pr (Builtin.append_ #[22, 22] 22 #[(.slice s9.a s9.len s9.cap), (.slice s10.a s10.len s10.cap)]) w24 = .ok (.slice s11.a s11.len s11.cap) w25 ∧
                                                      ∃ (w26 : World),
                                                      Sem.run Pr (Instr.storeAt 22 (.pointer (some a4)) (.slice s11.a s11.len s11.cap)) w25 = .ok () w26 ∧
                                                      RPost.nrm Q1 w26))) →
                                            LB.runs Pr X1 l1 [(.slice s6.a s6.len s6.cap), (.int .i64 n6)] w20 Q1)
                                          (fun D1 w27 =>
                                            brc (b1)
                                              (brc (n5 == (0 : Int))
                                                  (∃ (s12 : SV),
                                                    At Pr w27 (loadVar 22 a4) (.slice s12.a s12.len s12.cap) ∧
                                                    ∃ (s13 : SV),
                                                    At Pr w27 (loadVar 22 a2) (.slice s13.a s13.len s13.cap) ∧
                                                    Calls Pr 30 #[(.slice s12.a s12.len s12.cap), (.slice s13.a s13.len s13.cap)] w27 fun e10 w28 =>
                                                      ∃ (b7 : Bool),
                                                      e10 = .returned (.bool b7) ∧
                                                      ∃ (w29 : World),
                                                      Sem.run Pr (Instr.storeAt 4 (.pointer (some a1)) (.bool b7)) w28 = .ok () w29 ∧
                                                      shutV D1 w29 fun w30 =>
                                                        ∃ (b8 : Bool),
                                                        At Pr w30 (loadVar 4 a1) (.bool b8) ∧
                                                        R (.bool b8) w30)
                                                  (∃ (w31 : World),
                                                    Sem.run Pr (Instr.storeAt 4 (.pointer (some a1)) (.bool false)) w27 = .ok () w31 ∧
                                                    shutV D1 w31 fun w32 =>
                                                      ∃ (b9 : Bool),
                                                      At Pr w32 (loadVar 4 a1) (.bool b9) ∧
                                                      R (.bool b9) w32))
                                              (∃ (w33 : World),
                                                Sem.run Pr (Instr.storeAt 4 (.pointer (some a1)) (.bool false)) w27 = .ok () w33 ∧
                                                shutV D1 w33 fun w34 =>
                                                  ∃ (b10 : Bool),
                                                  At Pr w34 (loadVar 4 a1) (.bool b10) ∧
                                                  R (.bool b10) w34))
                                          (fun D2 w35 =>
                                            shutV D2 w35 fun w36 =>
                                              ∃ (b11 : Bool),
                                              At Pr w36 (loadVar 4 a1) (.bool b11) ∧
                                              R (.bool b11) w36)
                                          (fun _ _ _ =>
                                            False))))) (0, ()) w7))

theorem call5 {x0 : SV} {w0 : World} {R : Ending → World → Prop} (h : ir5 x0 w0 fun v w => R (.returned v) w) : Calls Pr 5 #[.slice x0.a x0.len x0.cap] w0 R := by
  refine calls_of_vcR (ann := [(8, [(32, .int .i64)])]) (E := [(58, 26), (59, 27)]) (args := [.slice x0.a x0.len x0.cap]) follows Try.func5 rfl (by kernel_rfl) ?_
  apply by_eq h
  kernel_rfl

/-- creel/creellaw13.RunTells -/
def ir6 (x0 : SV) (w0 : World) (R : Value → World → Prop) : Prop :=
  ∃ (a1 : Addr) (w1 : World),
  Sem.run Pr (Instr.alloc 4 true (.tuple #[])) w0 = .ok (.pointer (some a1)) w1 ∧
  Calls Pr 20 #[] w1 fun e1 w2 =>
    ∃ (b1 : Bool),
    e1 = .returned (.bool b1) ∧
    ((0 : Int) ≤ (if 1000 < ((x0.len : Nat) : Int) then 1000 else ((x0.len : Nat) : Int)) ∧ (if 1000 < ((x0.len : Nat) : Int) then 1000 else ((x0.len : Nat) : Int)) ≤ ((x0.cap : Nat) : Int)) ∧
    ∃ (a2 : Addr) (w3 : World),
    Sem.run Pr (Instr.alloc 26 true (.tuple #[])) w2 = .ok (.pointer (some a2)) w3 ∧
    ∃ (w4 : World),
    Sem.run Pr (Instr.storeAt 26 (.pointer (some a2)) (.slice (cutAt x0.a 0 x0.cap 1) ((Int.toNat (if 1000 < ((x0.len : Nat) : Int) then 1000 else ((x0.len : Nat) : Int))) - 0) (x0.cap - 0))) w3 = .ok () w4 ∧
    ∃ (s1 : SV),
    At Pr w4 (loadVar 26 a2) (.slice s1.a s1.len s1.cap) ∧
    Calls Pr 31 #[(.slice s1.a s1.len s1.cap)] w4 fun e2 w5 =>
      ∃ (s2 : SV),
      e2 = .returned (.slice s2.a s2.len s2.cap) ∧
      ∃ (a3 : Addr) (w6 : World),
      Sem.run Pr (Instr.alloc 52 true (.tuple #[])) w5 = .ok (.pointer (some a3)) w6 ∧
      ∃ (s3 : SV),
      At Pr w6 (loadVar 26 a2) (.slice s3.a s3.len s3.cap) ∧
      Calls Pr 29 #[(.slice s3.a s3.len s3.cap)] w6 fun e3 w7 =>
        ∃ (f1 : FV),
        e3 = .returned (.func f1.f f1.a f1.b) ∧
        ∃ (b2 : Bool),
        At Pr w7 (do eqGuard .eql 48 (.tmp 30) (.const .nilFunc) (.func f1.f f1.a f1.b) .nilFunc; binOp .eql 48 (.func f1.f f1.a f1.b) .nilFunc) (.bool b2) ∧
        brc (b2)
          (∃ (w8 : World),
            Sem.run Pr (Instr.storeAt 4 (.pointer (some a1)) (.bool false)) w7 = .ok () w8 ∧
            ∃ (b3 : Bool),
            At Pr w8 (loadVar 4 a1) (.bool b3) ∧
            R (.bool b3) w8)
          (rangeV Pr (.func f1.f f1.a f1.b) w7
              (fun X1 l1 =>
                ∀ (s4 : SV) (n1 : Int) (w9 : World) (Q1 : RPost),
                (∃ (w10 : World),
                  Sem.run Pr (Instr.beginRound l1) w9 = .ok () w10 ∧
                  ∃ (s5 : SV),
                  At Pr w10 (loadVar 52 a3) (.slice s5.a s5.len s5.cap) ∧
                  ∃ (s6 : SV) (w11 : World),
                  Sem.run Pr (Instr.buildSlice 52 1 #[(0, (.agg #[(.slice s4.a s4.len s4.cap), (.int .i64 n1)]))]) w10 = .ok (.slice s6.a s6.len s6.cap) w11 ∧
                  ∃ (s7 : SV) (w12 : World),
                  Sem.run Pr (Builtin.append_ #[52, 52] 52 #[(.slice s5.a s5.len s5.cap), (.slice s6.a s6.len s6.cap)]) w11 = .ok (.slice s7.a s7.len s7.cap) w12 ∧
                  ∃ (w13 : World),
                  Sem.run Pr (Instr.storeAt 52 (.pointer (some a3)) (.slice s7.a s7.len s7.cap)) w12 = .ok () w13 ∧
                  ∃ (s8 : SV),
                  At Pr w13 (loadVar 52 a3) (.slice s8.a s8.len s8.cap) ∧
                  ∃ (s9 : SV),
                  At Pr w13 (loadVar 26 a2) (.slice s9.a s9.len s9.cap) ∧
                  brc (decide (((s8.len : Nat) : Int) > (IntKind.wrap .i64 (((s9.len : Nat) : Int) + 1))))
                    (∃ (w14 : World),
                      Sem.run Pr (Instr.storeAt 4 (.pointer (some a1)) (.bool false)) w13 = .ok () w14 ∧
                      RPost.ret Q1 w14)
                    (RPost.nrm Q1 w13)) →
                LB.runs Pr X1 l1 [(.slice s4.a s4.len s4.cap), (.int .i64 n1)] w9 Q1)
              (fun D1 w15 =>
                Calls Pr 25 #[(.int .i64 2000)] w15 fun e4 w16 =>
                  ∃ (p1 : Option Addr),
                  e4 = .returned (.pointer p1) ∧
                  brc (Option.isNone p1)
                    (∃ (w17 : World),
                      Sem.run Pr (Instr.storeAt 4 (.pointer (some a1)) (.bool false)) w16 = .ok () w17 ∧
                      shutV D1 w17 fun w18 =>
                        ∃ (b4 : Bool),
                        At Pr w18 (loadVar 4 a1) (.bool b4) ∧
                        R (.bool b4) w18)
                    (Calls Pr 32 #[(.pointer p1), (.string (⟨#[120]⟩ : ByteArray))] w16 fun e5 w19 =>
                        ∃ (n2 : Int),
                        e5 = .returned (.int .i64 n2) ∧
                        brc (n2 != (0 : Int))
                          (∃ (w20 : World),
                            Sem.run Pr (Instr.storeAt 4 (.pointer (some a1)) (.bool false)) w19 = .ok () w20 ∧
                            shutV D1 w20 fun w21 =>
                              ∃ (b5 : Bool),
                              At Pr w21 (loadVar 4 a1) (.bool b5) ∧
                              R (.bool b5) w21)
                          (∃ (s10 : SV),
                            At Pr w19 (loadVar 26 a2) (.slice s10.a s10.len s10.cap) ∧
                            Calls Pr 33 #[(.pointer p1), (.string (⟨#[120]⟩ : ByteArray)), (.slice s10.a s10.len s10.cap)] w19 fun e6 w22 =>
                              ∃ (n3 : Int),
                              e6 = .returned (.int .i64 n3) ∧
                              brc (n3 != (0 : Int))
                                (∃ (w23 : World),
                                  Sem.run Pr (Instr.storeAt 4 (.pointer (some a1)) (.bool false)) w22 = .ok () w23 ∧
                                  shutV D1 w23 fun w24 =>
                                    ∃ (b6 : Bool),
                                    At Pr w24 (loadVar 4 a1) (.bool b6) ∧
                                    R (.bool b6) w24)
                                (∃ (s11 : SV),
                                  At Pr w22 (loadVar 52 a3) (.slice s11.a s11.len s11.cap) ∧
                                  brc (((s11.len : Nat) : Int) != ((s2.len : Nat) : Int))
                                    (∃ (w25 : World),
                                      Sem.run Pr (Instr.storeAt 4 (.pointer (some a1)) (.bool false)) w22 = .ok () w25 ∧
                                      shutV D1 w25 fun w26 =>
                                        ∃ (b7 : Bool),
                                        At Pr w26 (loadVar 4 a1) (.bool b7) ∧
                                        R (.bool b7) w26)
                                    (Calls Pr 34 #[(.pointer p1), (.string (⟨#[120]⟩ : ByteArray))] w22 fun e7 w27 =>
                                        ∃ (p2 : Option Addr) (n4 : Int),
                                        e7 = .returned (.tuple #[(.pointer p2), (.int .i64 n4)]) ∧
                                        brc (Option.isNone p2)
                                          (∃ (w28 : World),
                                            Sem.run Pr (Instr.storeAt 4 (.pointer (some a1)) (.bool false)) w27 = .ok () w28 ∧
                                            shutV D1 w28 fun w29 =>
                                              ∃ (b8 : Bool),
                                              At Pr w29 (loadVar 4 a1) (.bool b8) ∧
                                              R (.bool b8) w29)
                                          (brc (n4 != (0 : Int))
                                              (∃ (w30 : World),
                                                Sem.run Pr (Instr.storeAt 4 (.pointer (some a1)) (.bool false)) w27 = .ok () w30 ∧
                                                shutV D1 w30 fun w31 =>
                                                  ∃ (b9 : Bool),
                                                  At Pr w31 (loadVar 4 a1) (.bool b9) ∧
                                                  R (.bool b9) w31)
                                              (LoopT (σ := Int × Unit) (fun σ1 w32 K1 =>
                                                  ∀ _ : Env,
                                                  brc (decide (σ1.1 < ((s2.len : Nat) : Int)))
                                                    (((0 : Int) ≤ σ1.1 ∧ σ1.1 < ((s2.len : Nat) : Int)) ∧
                                                      optK s2.a fun a4 =>
                                                        ∃ (s12 : SV) (n5 : Int),
                                                        At Pr w32 (loadVar 55 (Addr.add a4 (Int.toNat σ1.1 * 2))) (.agg #[(.slice s12.a s12.len s12.cap), (.int .i64 n5)]) ∧
                                                        ∃ (a5 : Addr) (w33 : World),
                                                        Sem.run Pr (Instr.alloc 55 true (.tuple #[])) w32 = .ok (.pointer (some a5)) w33 ∧
                                                        ∃ (w34 : World),
                                                        Sem.run Pr (Instr.storeAt 55 (.pointer (some a5)) (.agg #[(.slice s12.a s12.len s12.cap), (.int .i64 n5)])) w33 = .ok () w34 ∧
                                                        Calls Pr 21 #[(.pointer p2)] w34 fun e8 w35 =>
                                                          ∃ (s13 : SV) (b10 : Bool) (n6 : Int),
                                                          e8 = .returned (.tuple #[(.agg #[(.slice s13.a s13.len s13.cap), (.bool b10)]), (.int .i64 n6)]) ∧
                                                          ∃ (a6 : Addr) (w36 : World),
                                                          Sem.run Pr (Instr.alloc 34 true (.tuple #[])) w35 = .ok (.pointer (some a6)) w36 ∧
                                                          ∃ (w37 : World),
                                                          Sem.run Pr (Instr.storeAt 34 (.pointer (some a6)) (.agg #[(.slice s13.a s13.len s13.cap), (.bool b10)])) w36 = .ok () w37 ∧
                                                          ∃ (S1 : World → Prop),
                                                          S1 (World.drew w37) ∧
                                                          ∃ (s14 : SV),
                                                          AtS Pr S1 (loadVar 52 a3) (.slice s14.a s14.len s14.cap) ∧
                                                          ((0 : Int) ≤ σ1.1 ∧ σ1.1 < ((s14.len : Nat) : Int)) ∧
                                                          optK s14.a fun a7 =>
                                                            ∃ (n7 : Int),
                                                            AtS Pr S1 (loadVar 27 (Addr.add (Addr.add a7 (Int.toNat σ1.1 * 2)) 1)) (.int .i64 n7) ∧
                                                            ∃ (n8 : Int),
                                                            AtS Pr S1 (loadVar 27 (Addr.add a5 1)) (.int .i64 n8) ∧
                                                            brc (n7 != n8)
                                                              (∃ (w38 : World),
                                                                Sem.run Pr (Instr.storeAt 4 (.pointer (some a1)) (.bool false)) (World.drew w37) = .ok () w38 ∧
                                                                shutV D1 w38 fun w39 =>
                                                                  ∃ (b11 : Bool),
                                                                  At Pr w39 (loadVar 4 a1) (.bool b11) ∧
                                                                  R (.bool b11) w39)
                                                              (∃ (s15 : SV),
                                                                AtS Pr S1 (loadVar 52 a3) (.slice s15.a s15.len s15.cap) ∧
                                                                ((0 : Int) ≤ σ1.1 ∧ σ1.1 < ((s15.len : Nat) : Int)) ∧
                                                                optK s15.a fun a8 =>
                                                                  ∃ (s16 : SV),
                                                                  AtS Pr S1 (loadVar 26 (Addr.add (Addr.add a8 (Int.toNat σ1.1 * 2)) 0)) (.slice s16.a s16.len s16.cap) ∧
                                                                  ∃ (str1 : ByteArray),
                                                                  AtS Pr S1 (convert 26 9 (.slice s16.a s16.len s16.cap)) (.string str1) ∧
                                                                  ∃ (s17 : SV),
                                                                  AtS Pr S1 (loadVar 26 (Addr.add a5 0)) (.slice s17.a s17.len s17.cap) ∧
                                                                  ∃ (str2 : ByteArray),
                                                                  AtS Pr S1 (convert 26 9 (.slice s17.a s17.len s17.cap)) (.string str2) ∧
                                                                  brc (!(ByteArray.toList str1 == ByteArray.toList str2))
                                                                    (∃ (w40 : World),
                                                                      Sem.run Pr (Instr.storeAt 4 (.pointer (some a1)) (.bool false)) (World.drew w37) = .ok () w40 ∧
                                                                      shutV D1 w40 fun w41 =>
                                                                        ∃ (b12 : Bool),
                                                                        At Pr w41 (loadVar 4 a1) (.bool b12) ∧
                                                                        R (.bool b12) w41)
                                                                    (∃ (n9 : Int),
                                                                      AtS Pr S1 (loadVar 27 (Addr.add a5 1)) (.int .i64 n9) ∧
                                                                      brc (n6 != n9)
                                                                        (∃ (w42 : World),
                                                                          Sem.run Pr (Instr.storeAt 4 (.pointer (some a1)) (.bool false)) (World.drew w37) = .ok () w42 ∧
                                                                          shutV D1 w42 fun w43 =>
                                                                            ∃ (b13 : Bool),
                                                                            At Pr w43 (loadVar 4 a1) (.bool b13) ∧
                                                                            R (.bool b13) w43)
                                                                        (∃ (b14 : Bool),
                                                                          AtS Pr S1 (loadVar 4 (Addr.add a6 1)) (.bool b14) ∧
                                                                          ∃ (n10 : Int),
                                                                          AtS Pr S1 (loadVar 27 (Addr.add a5 1)) (.int .i64 n10) ∧
                                                                          brc (!(b14 == (n10 == (0 : Int))))
                                                                            (∃ (w44 : World),
                                                                              Sem.run Pr (Instr.storeAt 4 (.pointer (some a1)) (.bool false)) (World.drew w37) = .ok () w44 ∧
                                                                              shutV D1 w44 fun w45 =>
                                                                                ∃ (b15 : Bool),
                                                                                At Pr w45 (loadVar 4 a1) (.bool b15) ∧
                                                                                R (.bool b15) w45)
                                                                            (∃ (s18 : SV),
                                                                              AtS Pr S1 (loadVar 26 (Addr.add a6 0)) (.slice s18.a s18.len s18.cap) ∧
                                                                              ∃ (str3 : ByteArray),
                                                                              AtS Pr S1 (convert 26 9 (.slice s18.a s18.len s18.cap)) (.string str3) ∧
                                                                              ∃ (s19 : SV),
                                                                              AtS Pr S1 (loadVar 26 (Addr.add a5 0)) (.slice s19.a s19.len s19.cap) ∧
                                                                              ∃ (str4 : ByteArray),
                                                                              AtS Pr S1 (convert 26 9 (.slice s19.a s19.len s19.cap)) (.string str4) ∧
                                                                              brc (!(ByteArray.toList str3 == ByteArray.toList str4))
                                                                                (∃ (w46 : World),
                                                                                  Sem.run Pr (Instr.storeAt 4 (.pointer (some a1)) (.bool false)) (World.drew w37) = .ok () w46 ∧
                                                                                  shutV D1 w46 fun w47 =>
                                                                                    ∃ (b16 : Bool),
                                                                                    At Pr w47 (loadVar 4 a1) (.bool b16) ∧
                                                                                    R (.bool b16) w47)
                                                                                (K1 (IntKind.wrap .i64 (σ1.1 + 1), ()) (World.drew w37)))))))
                                                    (brc (decide (((s2.len : Nat) : Int) > (0 : Int)))
                                                        (((0 : Int) ≤ (IntKind.wrap .i64 (((s2.len : Nat) : Int) - 1)) ∧ (IntKind.wrap .i64 (((s2.len : Nat) : Int) - 1)) < ((s2.len : Nat) : Int)) ∧
                                                          optK s2.a fun a9 =>
                                                            ∃ (n11 : Int),
                                                            At Pr w32 (loadVar 27 (Addr.add (Addr.add a9 (Int.toNat (IntKind.wrap .i64 (((s2.len : Nat) : Int) - 1)) * 2)) 1)) (.int .i64 n11) ∧
                                                            Calls Pr 21 #[(.pointer p2)] w32 fun e9 w48 =>
                                                              ∃ (s20 : SV) (b17 : Bool) (n12 : Int),
                                                              e9 = .returned (.tuple #[(.agg #[(.slice s20.a s20.len s20.cap), (.bool b17)]), (.int .i64 n12)]) ∧
                                                              ∃ (a10 : Addr) (w49 : World),
                                                              Sem.run Pr (Instr.alloc 34 true (.tuple #[])) w48 = .ok (.pointer (some a10)) w49 ∧
                                                              ∃ (w50 : World),
                                                              Sem.run Pr (Instr.storeAt 34 (.pointer (some a10)) (.agg #[(.slice s20.a s20.len s20.cap), (.bool b17)])) w49 = .ok () w50 ∧
                                                              brc (b1)
                                                                (∃ (b18 : Bool),
                                                                  At Pr w50 (loadVar 4 (Addr.add a10 1)) (.bool b18) ∧
                                                                  brc (!b18)
                                                                    (∃ (s21 : SV),
                                                                      At Pr w50 (loadVar 26 (Addr.add a10 0)) (.slice s21.a s21.len s21.cap) ∧
                                                                      brc (((s21.len : Nat) : Int) == (0 : Int))
                                                                        (∃ (w51 : World),
                                                                          Sem.run Pr (Instr.storeAt 4 (.pointer (some a1)) (.bool (n12 == n11))) w50 = .ok () w51 ∧
                                                                          shutV D1 w51 fun w52 =>
                                                                            ∃ (b19 : Bool),
                                                                            At Pr w52 (loadVar 4 a1) (.bool b19) ∧
                                                                            R (.bool b19) w52)
                                                                        (∃ (w53 : World),
                                                                          Sem.run Pr (Instr.storeAt 4 (.pointer (some a1)) (.bool false)) w50 = .ok () w53 ∧
                                                                          shutV D1 w53 fun w54 =>
                                                                            ∃ (b20 : Bool),
                                                                            At Pr w54 (loadVar 4 a1) (.bool b20) ∧
                                                                            R (.bool b20) w54))
                                                                    (∃ (w55 : World),
                                                                      Sem.run Pr (Instr.storeAt 4 (.pointer (some a1)) (.bool false)) w50 = .ok () w55 ∧
                                                                      shutV D1 w55 fun w56 =>
                                                                        ∃ (b21 : Bool),
                                                                        At Pr w56 (loadVar 4 a1) (.bool b21) ∧
                                                                        R (.bool b21) w56))
                                                                (∃ (w57 : World),
                                                                  Sem.run Pr (Instr.storeAt 4 (.pointer (some a1)) (.bool false)) w50 = .ok () w57 ∧
                                                                  shutV D1 w57 fun w58 =>
                                                                    ∃ (b22 : Bool),
                                                                    At Pr w58 (loadVar 4 a1) (.bool b22) ∧
                                                                    R (.bool b22) w58))
                                                        (Calls Pr 21 #[(.pointer p2)] w32 fun e10 w59 =>
                                                            ∃ (s22 : SV) (b23 : Bool) (n13 : Int),
                                                            e10 = .returned (.tuple #[(.agg #[(.slice s22.a s22.len s22.cap), (.bool b23)]), (.int .i64 n13)]) ∧
                                                            ∃ (a11 : Addr) (w60 : World),
                                                            Sem.run Pr (Instr.alloc 34 true (.tuple #[])) w59 = .ok (.pointer (some a11)) w60 ∧
                                                            ∃ (w61 : World),
                                                            Sem.run Pr (Instr.storeAt 34 (.pointer (some a11)) (.agg #[(.slice s22.a s22.len s22.cap), (.bool b23)])) w60 = .ok () w61 ∧
                                                            brc (b1)
                                                              (∃ (b24 : Bool),
                                                                At Pr w61 (loadVar 4 (Addr.add a11 1)) (.bool b24) ∧
                                                                brc (!b24)
                                                                  (∃ (s23 : SV),
                                                                    At Pr w61 (loadVar 26 (Addr.add a11 0)) (.slice s23.a s23.len s23.cap) ∧
                                                                    brc (((s23.len : Nat) : Int) == (0 : Int))
                                                                      (∃ (w62 : World),
                                                                        Sem.run Pr (Instr.storeAt 4 (.pointer (some a1)) (.bool (n13 == (0 : Int)))) w61 = .ok () w62 ∧
                                                                        shutV D1 w62 fun w63 =>
                                                                          ∃ (b25 : Bool),
                                                                          At Pr w63 (loadVar 4 a1) (.bool b25) ∧
                                                                          R (.bool b25) w63)
                                                                      (∃ (w64 : World),
                                                                        Sem.run Pr (Instr.storeAt 4 (.pointer (some a1)) (.bool false)) w61 = .ok () w64 ∧
                                                                        shutV D1 w64 fun w65 =>
                                                                          ∃ (b26 : Bool),
                                                                          At Pr w65 (loadVar 4 a1) (.bool b26) ∧
                                                                          R (.bool b26) w65))
                                                                  (∃ (w66 : World),
                                                                    Sem.run Pr (Instr.storeAt 4 (.pointer (some a1)) (.bool false)) w61 = .ok () w66 ∧
                                                                    shutV D1 w66 fun w67 =>
                                                                      ∃ (b27 : Bool),
                                                                      At Pr w67 (loadVar 4 a1) (.bool b27) ∧
                                                                      R (.bool b27) w67))
                                                              (∃ (w68 : World),
                                                                Sem.run Pr (Instr.storeAt 4 (.pointer (some a1)) (.bool false)) w61 = .ok () w68 ∧
                                                                shutV D1 w68 fun w69 =>
                                                                  ∃ (b28 : Bool),
                                                                  At Pr w69 (loadVar 4 a1) (.bool b28) ∧
                                                                  R (.bool b28) w69)))) (0, ()) w27)))))))
              (fun D2 w70 =>
                shutV D2 w70 fun w71 =>
                  ∃ (b29 : Bool),
                  At Pr w71 (loadVar 4 a1) (.bool b29) ∧
                  R (.bool b29) w71)
              (fun _ _ _ =>
                False))

theorem call6 {x0 : SV} {w0 : World} {R : Ending → World → Prop} (h : ir6 x0 w0 fun v w => R (.returned v) w) : Calls Pr 6 #[.slice x0.a x0.len x0.cap] w0 R := by
  refine calls_of_vcR (ann := [(21, [(81, .int .i64)])]) (E := [(33, 26), (34, 27)]) (args := [.slice x0.a x0.len x0.cap]) follows Try.func6 rfl (by kernel_rfl) ?_
  apply by_eq h
  kernel_rfl

/-- creel/place.fill -/
def ir116 (x0 : Option Addr) (x1 : SV) (w0 : World) (R : Value → World → Prop) : Prop :=
  ∃ (a1 : Addr) (w1 : World),
  Sem.run Pr (Instr.box 41 (.pointer x0)) w0 = .ok (.pointer (some a1)) w1 ∧
  ∃ (a2 : Addr) (w2 : World),
  Sem.run Pr (Instr.alloc 27 true (.tuple #[])) w1 = .ok (.pointer (some a2)) w2 ∧
  Calls Pr 147 #[(.slice x1.a x1.len x1.cap), (.int .i64 64)] w2 fun e1 w3 =>
    ∃ (f1 : FV),
    e1 = .returned (.func f1.f f1.a f1.b) ∧
    rangeV Pr (.func f1.f f1.a f1.b) w3
      (fun X1 l1 =>
        ∀ (s1 : SV) (w4 : World) (Q1 : RPost),
        (∃ (w5 : World),
          Sem.run Pr (Instr.beginRound l1) w4 = .ok () w5 ∧
          ∃ (p1 : Option Addr),
          At Pr w5 (loadVar 41 a1) (.pointer p1) ∧
          Calls Pr 33 #[(.pointer p1), (.string (⟨#[116, 109, 112]⟩ : ByteArray)), (.slice s1.a s1.len s1.cap)] w5 fun e2 w6 =>
            ∃ (n1 : Int),
            e2 = .returned (.int .i64 n1) ∧
            brc (n1 != (0 : Int))
              (∃ (w7 : World),
                Sem.run Pr (Instr.storeAt 27 (.pointer (some a2)) (.int .i64 n1)) w6 = .ok () w7 ∧
                RPost.ret Q1 w7)
              (RPost.nrm Q1 w6)) →
        LB.runs Pr X1 l1 [(.slice s1.a s1.len s1.cap)] w4 Q1)
      (fun D1 w8 =>
        ∃ (w9 : World),
        Sem.run Pr (Instr.storeAt 27 (.pointer (some a2)) (.int .i64 0)) w8 = .ok () w9 ∧
        shutV D1 w9 fun w10 =>
          ∃ (n2 : Int),
          At Pr w10 (loadVar 27 a2) (.int .i64 n2) ∧
          R (.int .i64 n2) w10)
      (fun D2 w11 =>
        shutV D2 w11 fun w12 =>
          ∃ (n3 : Int),
          At Pr w12 (loadVar 27 a2) (.int .i64 n3) ∧
          R (.int .i64 n3) w12)
      (fun _ _ _ =>
        False)

theorem call116 {x0 : Option Addr} {x1 : SV} {w0 : World} {R : Ending → World → Prop} (h : ir116 x0 x1 w0 fun v w => R (.returned v) w) : Calls Pr 116 #[.pointer x0, .slice x1.a x1.len x1.cap] w0 R := by
  refine calls_of_vcR (ann := []) (E := [(9, 26)]) (args := [.pointer x0, .slice x1.a x1.len x1.cap]) follows Try.func116 rfl (by kernel_rfl) ?_
  apply by_eq h
  kernel_rfl

end Go.Proofs.Ytonjaaljnjjjcaa

/- What 'vc' of these functions comes to, and their calls by it. Printed by dec.py. -/
set_option linter.unusedVariables false
set_option linter.unusedSimpArgs false
namespace Go.Proofs.Ytonjaaljnjjjcaa
open Go

/-- creel/creellaw13.rise -/
def ir26 (x0 : SV) (w0 : World) (R : Value → World → Prop) : Prop :=
  Calls Pr 61 #[(.slice x0.a x0.len x0.cap)] w0 fun e1 w1 =>
    ∃ (s1 : SV),
    e1 = .returned (.slice s1.a s1.len s1.cap) ∧
    LoopT (σ := Int × SV × Unit) (fun σ1 w2 K1 =>
      ∀ _ : Env,
      brc (decide (σ1.1 < ((s1.len : Nat) : Int)))
        (((0 : Int) ≤ σ1.1 ∧ σ1.1 < ((s1.len : Nat) : Int)) ∧
          optK s1.a fun a1 =>
            ∃ (s2 : SV),
            At Pr w2 (loadVar 26 (Addr.add a1 (Int.toNat σ1.1 * 1))) (.slice s2.a s2.len s2.cap) ∧
            brc (decide (((s2.len : Nat) : Int) > (64 : Int)))
              (K1 (IntKind.wrap .i64 (σ1.1 + 1), σ1.2.1, ()) w2)
              (LoopT (σ := Int × Unit) (fun σ2 w3 K2 =>
                  ∀ _ : Env,
                  ∃ (S1 : World → Prop),
                  S1 (World.drew w3) ∧
                  brc (decide (σ2.1 < ((σ1.2.1.len : Nat) : Int)))
                    (((0 : Int) ≤ σ2.1 ∧ σ2.1 < ((σ1.2.1.len : Nat) : Int)) ∧
                      optK σ1.2.1.a fun a2 =>
                        ∃ (s3 : SV),
                        AtS Pr S1 (loadVar 26 (Addr.add a2 (Int.toNat σ2.1 * 1))) (.slice s3.a s3.len s3.cap) ∧
                        ∃ (str1 : ByteArray),
                        AtS Pr S1 (convert 26 9 (.slice s3.a s3.len s3.cap)) (.string str1) ∧
                        ∃ (str2 : ByteArray),
                        AtS Pr S1 (convert 26 9 (.slice s2.a s2.len s2.cap)) (.string str2) ∧
                        brc ((Op.bytesLess (ByteArray.toList str1) (ByteArray.toList str2)))
                          (K2 (IntKind.wrap .i64 (σ2.1 + 1), ()) (World.drew w3))
                          (∃ (S2 : World → Prop),
                            S2 (World.drew (World.drew w3)) ∧
                            brc (decide (σ2.1 < ((σ1.2.1.len : Nat) : Int)))
                              (((0 : Int) ≤ σ2.1 ∧ σ2.1 < ((σ1.2.1.len : Nat) : Int)) ∧
                                optK σ1.2.1.a fun a3 =>
                                  ∃ (s4 : SV),
                                  AtS Pr S2 (loadVar 26 (Addr.add a3 (Int.toNat σ2.1 * 1))) (.slice s4.a s4.len s4.cap) ∧
                                  ∃ (str3 : ByteArray),
                                  AtS Pr S2 (convert 26 9 (.slice s4.a s4.len s4.cap)) (.string str3) ∧
                                  ∃ (str4 : ByteArray),
                                  AtS Pr S2 (convert 26 9 (.slice s2.a s2.len s2.cap)) (.string str4) ∧
                                  brc ((ByteArray.toList str3 == ByteArray.toList str4))
                                    (K1 (IntKind.wrap .i64 (σ1.1 + 1), σ1.2.1, ()) (World.drew (World.drew w3)))
                                    (∃ (S3 : World → Prop),
                                      S3 (World.drew (World.drew (World.drew w3))) ∧
                                      ((0 : Int) ≤ σ2.1 ∧ σ2.1 ≤ ((σ1.2.1.cap : Nat) : Int)) ∧
                                      ((0 : Int) ≤ σ2.1 ∧ σ2.1 ≤ ((σ1.2.1.len : Nat) : Int)) ∧
                                      (∃ (s5 : SV) (w4 : World),
                                      Sem.run Pr (Instr.buildSlice 22 0 #[]) (World.drew (World.drew (World.drew w3))) = .ok (.slice s5.a s5.len s5.cap) w4 ∧
                                      ∃ (S4 : World → Prop),
                                      S4 w4 ∧
                                      (∃ (s6 : SV) (w5 : World),
                                      Sem.run Pr (Builtin.append_ #[22, 22] 22 #[(.slice s5.a s5.len s5.cap), (.slice (cutAt σ1.2.1.a 0 σ1.2.1.cap 1) ((Int.toNat σ2.1) - 0) (σ1.2.1.cap - 0))]) w4 = .ok (.slice s6.a s6.len s6.cap) w5 ∧
                                      ∃ (S5 : World → Prop),
                                      S5 w5 ∧
                                      ∃ (s7 : SV) (w6 : World),
                                      Sem.run Pr (Instr.buildSlice 22 1 #[(0, (.slice s2.a s2.len s2.cap))]) w5 = .ok (.slice s7.a s7.len s7.cap) w6 ∧
                                      ∃ (S6 : World → Prop),
                                      S6 w6 ∧
                                      ∃ (s8 : SV) (w7 : World),
                                      Sem.run Pr (Builtin.append_ #[22, 22] 22 #[(.slice s6.a s6.len s6.cap), (.slice s7.a s7.len s7.cap)]) w6 = .ok (.slice s8.a s8.len s8.cap) w7 ∧
                                      ∃ (S7 : World → Prop),
                                      S7 w7 ∧
                                      ∃ (s9 : SV) (w8 : World),
                                      Sem.run Pr (Builtin.append_ #[22, 22] 22 #[(.slice s8.a s8.len s8.cap), (.slice (cutAt σ1.2.1.a (Int.toNat σ2.1) σ1.2.1.cap 1) (σ1.2.1.len - (Int.toNat σ2.1)) (σ1.2.1.cap - (Int.toNat σ2.1)))]) w7 = .ok (.slice s9.a s9.len s9.cap) w8 ∧
                                      ∃ (S8 : World → Prop),
                                      S8 w8 ∧
                                      K1 (IntKind.wrap .i64 (σ1.1 + 1), s9, ()) w8) ∧
                                      ∃ (s10 : SV) (w9 : World),
                                      Sem.run Pr (Instr.buildSlice 22 1 #[(0, (.slice s2.a s2.len s2.cap))]) w4 = .ok (.slice s10.a s10.len s10.cap) w9 ∧
                                      ∃ (S9 : World → Prop),
                                      S9 w9 ∧
                                      ∃ (s11 : SV) (w10 : World),
                                      Sem.run Pr (Builtin.append_ #[22, 22] 22 #[(.slice s5.a s5.len s5.cap), (.slice (cutAt σ1.2.1.a 0 σ1.2.1.cap 1) ((Int.toNat σ2.1) - 0) (σ1.2.1.cap - 0))]) w9 = .ok (.slice s11.a s11.len s11.cap) w10 ∧
                                      ∃ (S10 : World → Prop),
                                      S10 w10 ∧
                                      ∃ (s12 : SV) (w11 : World),
                                      Sem.run Pr (Builtin.append_ #[22, 22] 22 #[(.slice s11.a s11.len s11.cap), (.slice s10.a s10.len s10.cap)]) w10 = .ok (.slice s12.a s12.len s12.cap) w11 ∧
                                      ∃ (S11 : World → Prop),
                                      S11 w11 ∧
                                      ∃ (s13 : SV) (w12 : World),
                                      Sem.run Pr (Builtin.append_ #[22, 22] 22 #[(.slice s12.a s12.len s12.cap), (.slice (cutAt σ1.2.1.a (Int.toNat σ2.1) σ1.2.1.cap 1) (σ1.2.1.len - (Int.toNat σ2.1)) (σ1.2.1.cap - (Int.toNat σ2.1)))]) w11 = .ok (.slice s13.a s13.len s13.cap) w12 ∧
                                      ∃ (S12 : World → Prop),
                                      S12 w12 ∧
                                      K1 (IntKind.wrap .i64 (σ1.1 + 1), s13, ()) w12) ∧
                                      ∃ (s14 : SV) (w13 : World),
                                      Sem.run Pr (Instr.buildSlice 22 1 #[(0, (.slice s2.a s2.len s2.cap))]) (World.drew (World.drew (World.drew w3))) = .ok (.slice s14.a s14.len s14.cap) w13 ∧
                                      ∃ (S13 : World → Prop),
                                      S13 w13 ∧
                                      ∃ (s15 : SV) (w14 : World),
                                      Sem.run Pr (Instr.buildSlice 22 0 #[]) w13 = .ok (.slice s15.a s15.len s15.cap) w14 ∧
                                      ∃ (S14 : World → Prop),
                                      S14 w14 ∧
                                      ∃ (s16 : SV) (w15 : World),
                                      Sem.run Pr (Builtin.append_ #[22, 22] 22 #[(.slice s15.a s15.len s15.cap), (.slice (cutAt σ1.2.1.a 0 σ1.2.1.cap 1) ((Int.toNat σ2.1) - 0) (σ1.2.1.cap - 0))]) w14 = .ok (.slice s16.a s16.len s16.cap) w15 ∧
                                      ∃ (S15 : World → Prop),
                                      S15 w15 ∧
                                      ∃ (s17 : SV) (w16 : World),
                                      Sem.run Pr (Builtin.append_ #[22, 22] 22 #[(.slice s16.a s16.len s16.cap), (.slice s14.a s14.len s14.cap)]) w15 = .ok (.slice s17.a s17.len s17.cap) w16 ∧
                                      ∃ (S16 : World → Prop),
                                      S16 w16 ∧
                                      ∃ (s18 : SV) (w17 : World),
                                      Sem.run Pr (Builtin.append_ #[22, 22] 22 #[(.slice s17.a s17.len s17.cap), (.slice (cutAt σ1.2.1.a (Int.toNat σ2.1) σ1.2.1.cap 1) (σ1.2.1.len - (Int.toNat σ2.1)) (σ1.2.1.cap - (Int.toNat σ2.1)))]) w16 = .ok (.slice s18.a s18.len s18.cap) w17 ∧
                                      ∃ (S17 : World → Prop),
                                      S17 w17 ∧
                                      K1 (IntKind.wrap .i64 (σ1.1 + 1), s18, ()) w17))
                              (∃ (S18 : World → Prop),
                                S18 (World.drew (World.drew (World.drew w3))) ∧
                                ((0 : Int) ≤ σ2.1 ∧ σ2.1 ≤ ((σ1.2.1.cap : Nat) : Int)) ∧
                                ((0 : Int) ≤ σ2.1 ∧ σ2.1 ≤ ((σ1.2.1.len : Nat) : Int)) ∧
                                (∃ (s19 : SV) (w18 : World),
                                Sem.run Pr (Instr.buildSlice 22 0 #[]) (World.drew (World.drew (World.drew w3))) = .ok (.slice s19.a s19.len s19.cap) w18 ∧
                                ∃ (S19 : World → Prop),
                                S19 w18 ∧
                                (∃ (s20 : SV) (w19 : World),
                                Sem.run Pr (Builtin.append_ #[22, 22] 22 #[(.slice s19.a s19.len s19.cap), (.slice (cutAt σ1.2.1.a 0 σ1.2.1.cap 1) ((Int.toNat σ2.1) - 0) (σ1.2.1.cap - 0))]) w18 = .ok (.slice s20.a s20.len s20.cap) w19 ∧
                                ∃ (S20 : World → Prop),
                                S20 w19 ∧
                                ∃ (s21 : SV) (w20 : World),
                                Sem.run Pr (Instr.buildSlice 22 1 #[(0, (.slice s2.a s2.len s2.cap))]) w19 = .ok (.slice s21.a s21.len s21.cap) w20 ∧
                                ∃ (S21 : World → Prop),
                                S21 w20 ∧
                                ∃ (s22 : SV) (w21 : World),
                                Sem.run Pr (Builtin.append_ #[22, 22] 22 #[(.slice s20.a s20.len s20.cap), (.slice s21.a s21.len s21.cap)]) w20 = .ok (.slice s22.a s22.len s22.cap) w21 ∧
                                ∃ (S22 : World → Prop),
                                S22 w21 ∧
                                ∃ (s23 : SV) (w22 : World),
                                Sem.run Pr (Builtin.append_ #[22, 22] 22 #[(.slice s22.a s22.len s22.cap), (.slice (cutAt σ1.2.1.a (Int.toNat σ2.1) σ1.2.1.cap 1) (σ1.2.1.len - (Int.toNat σ2.1)) (σ1.2.1.cap - (Int.toNat σ2.1)))]) w21 = .ok (.slice s23.a s23.len s23.cap) w22 ∧
                                ∃ (S23 : World → Prop),
                                S23 w22 ∧
                                K1 (IntKind.wrap .i64 (σ1.1 + 1), s23, ()) w22) ∧
                                ∃ (s24 : SV) (w23 : World),
                                Sem.run Pr (Instr.buildSlice 22 1 #[(0, (.slice s2.a s2.len s2.cap))]) w18 = .ok (.slice s24.a s24.len s24.cap) w23 ∧
                                ∃ (S24 : World → Prop),
                                S24 w23 ∧
                                ∃ (s25 : SV) (w24 : World),
                                Sem.run Pr (Builtin.append_ #[22, 22] 22 #[(.slice s19.a s19.len s19.cap), (.slice (cutAt σ1.2.1.a 0 σ1.2.1.cap 1) ((Int.toNat σ2.1) - 0) (σ1.2.1.cap - 0))]) w23 = .ok (.slice s25.a s25.len s25.cap) w24 ∧
                                ∃ (S25 : World → Prop),
                                S25 w24 ∧
                                ∃ (s26 : SV) (w25 : World),
                                Sem.run Pr (Builtin.append_ #[22, 22] 22 #[(.slice s25.a s25.len s25.cap), (.slice s24.a s24.len s24.cap)]) w24 = .ok (.slice s26.a s26.len s26.cap) w25 ∧
                                ∃ (S26 : World → Prop),
                                S26 w25 ∧
                                ∃ (s27 : SV) (w26 : World),
                                Sem.run Pr (Builtin.append_ #[22, 22] 22 #[(.slice s26.a s26.len s26.cap), (.slice (cutAt σ1.2.1.a (Int.toNat σ2.1) σ1.2.1.cap 1) (σ1.2.1.len - (Int.toNat σ2.1)) (σ1.2.1.cap - (Int.toNat σ2.1)))]) w25 = .ok (.slice s27.a s27.len s27.cap) w26 ∧
                                ∃ (S27 : World → Prop),
                                S27 w26 ∧
                                K1 (IntKind.wrap .i64 (σ1.1 + 1), s27, ()) w26) ∧
                                ∃ (s28 : SV) (w27 : World),
                                Sem.run Pr (Instr.buildSlice 22 1 #[(0, (.slice s2.a s2.len s2.cap))]) (World.drew (World.drew (World.drew w3))) = .ok (.slice s28.a s28.len s28.cap) w27 ∧
                                ∃ (S28 : World → Prop),
                                S28 w27 ∧
                                ∃ (s29 : SV) (w28 : World),
                                Sem.run Pr (Instr.buildSlice 22 0 #[]) w27 = .ok (.slice s29.a s29.len s29.cap) w28 ∧
                                ∃ (S29 : World → Prop),
                                S29 w28 ∧
                                ∃ (s30 : SV) (w29 : World),
                                Sem.run Pr (Builtin.append_ #[22, 22] 22 #[(.slice s29.a s29.len s29.cap), (.slice (cutAt σ1.2.1.a 0 σ1.2.1.cap 1) ((Int.toNat σ2.1) - 0) (σ1.2.1.cap - 0))]) w28 = .ok (.slice s30.a s30.len s30.cap) w29 ∧
                                ∃ (S30 : World → Prop),
                                S30 w29 ∧
                                ∃ (s31 : SV) (w30 : World),
                                Sem.run Pr (Builtin.append_ #[22, 22] 22 #[(.slice s30.a s30.len s30.cap), (.slice s28.a s28.len s28.cap)]) w29 = .ok (.slice s31.a s31.len s31.cap) w30 ∧
                                ∃ (S31 : World → Prop),
                                S31 w30 ∧
                                ∃ (s32 : SV) (w31 : World),
                                Sem.run Pr (Builtin.append_ #[22, 22] 22 #[(.slice s31.a s31.len s31.cap), (.slice (cutAt σ1.2.1.a (Int.toNat σ2.1) σ1.2.1.cap 1) (σ1.2.1.len - (Int.toNat σ2.1)) (σ1.2.1.cap - (Int.toNat σ2.1)))]) w30 = .ok (.slice s32.a s32.len s32.cap) w31 ∧
                                ∃ (S32 : World → Prop),
                                S32 w31 ∧
                                K1 (IntKind.wrap .i64 (σ1.1 + 1), s32, ()) w31)))
                    (∃ (S33 : World → Prop),
                      S33 (World.drew (World.drew w3)) ∧
                      brc (decide (σ2.1 < ((σ1.2.1.len : Nat) : Int)))
                        (((0 : Int) ≤ σ2.1 ∧ σ2.1 < ((σ1.2.1.len : Nat) : Int)) ∧
                          optK σ1.2.1.a fun a4 =>
                            ∃ (s33 : SV),
                            AtS Pr S33 (loadVar 26 (Addr.add a4 (Int.toNat σ2.1 * 1))) (.slice s33.a s33.len s33.cap) ∧
                            ∃ (str5 : ByteArray),
                            AtS Pr S33 (convert 26 9 (.slice s33.a s33.len s33.cap)) (.string str5) ∧
                            ∃ (str6 : ByteArray),
                            AtS Pr S33 (convert 26 9 (.slice s2.a s2.len s2.cap)) (.string str6) ∧
                            brc ((ByteArray.toList str5 == ByteArray.toList str6))
                              (K1 (IntKind.wrap .i64 (σ1.1 + 1), σ1.2.1, ()) (World.drew (World.drew w3)))
                              (∃ (S34 : World → Prop),
                                S34 (World.drew (World.drew (World.drew w3))) ∧
                                ((0 : Int) ≤ σ2.1 ∧ σ2.1 ≤ ((σ1.2.1.cap : Nat) : Int)) ∧
                                ((0 : Int) ≤ σ2.1 ∧ σ2.1 ≤ ((σ1.2.1.len : Nat) : Int)) ∧
                                (∃ (s34 : SV) (w32 : World),
                                Sem.run Pr (Instr.buildSlice 22 0 #[]) (World.drew (World.drew (World.drew w3))) = .ok (.slice s34.a s34.len s34.cap) w32 ∧
                                ∃ (S35 : World → Prop),
                                S35 w32 ∧
                                (∃ (s35 : SV) (w33 : World),
                                Sem.run Pr (Builtin.append_ #[22, 22] 22 #[(.slice s34.a s34.len s34.cap), (.slice (cutAt σ1.2.1.a 0 σ1.2.1.cap 1) ((Int.toNat σ2.1) - 0) (σ1.2.1.cap - 0))]) w32 = .ok (.slice s35.a s35.len s35.cap) w33 ∧
                                ∃ (S36 : World → Prop),
                                S36 w33 ∧
                                ∃ (s36 : SV) (w34 : World),
                                Sem.run Pr (Instr.buildSlice 22 1 #[(0, (.slice s2.a s2.len s2.cap))]) w33 = .ok (.slice s36.a s36.len s36.cap) w34 ∧
                                ∃ (S37 : World → Prop),
                                S37 w34 ∧
                                ∃ (s37 : SV) (w35 : World),
                                Sem.run Pr (Builtin.append_ #[22, 22] 22 #[(.slice s35.a s35.len s35.cap), (.slice s36.a s36.len s36.cap)]) w34 = .ok (.slice s37.a s37.len s37.cap) w35 ∧
                                ∃ (S38 : World → Prop),
                                S38 w35 ∧
                                ∃ (s38 : SV) (w36 : World),
                                Sem.run Pr (Builtin.append_ #[22, 22] 22 #[(.slice s37.a s37.len s37.cap), (.slice (cutAt σ1.2.1.a (Int.toNat σ2.1) σ1.2.1.cap 1) (σ1.2.1.len - (Int.toNat σ2.1)) (σ1.2.1.cap - (Int.toNat σ2.1)))]) w35 = .ok (.slice s38.a s38.len s38.cap) w36 ∧
                                ∃ (S39 : World → Prop),
                                S39 w36 ∧
                                K1 (IntKind.wrap .i64 (σ1.1 + 1), s38, ()) w36) ∧
                                ∃ (s39 : SV) (w37 : World),
                                Sem.run Pr (Instr.buildSlice 22 1 #[(0, (.slice s2.a s2.len s2.cap))]) w32 = .ok (.slice s39.a s39.len s39.cap) w37 ∧
                                ∃ (S40 : World → Prop),
                                S40 w37 ∧
                                ∃ (s40 : SV) (w38 : World),
                                Sem.run Pr (Builtin.append_ #[22, 22] 22 #[(.slice s34.a s34.len s34.cap), (.slice (cutAt σ1.2.1.a 0 σ1.2.1.cap 1) ((Int.toNat σ2.1) - 0) (σ1.2.1.cap - 0))]) w37 = .ok (.slice s40.a s40.len s40.cap) w38 ∧
                                ∃ (S41 : World → Prop),
                                S41 w38 ∧
                                ∃ (s41 : SV) (w39 : World),
                                Sem.run Pr (Builtin.append_ #[22, 22] 22 #[(.slice s40.a s40.len s40.cap), (.slice s39.a s39.len s39.cap)]) w38 = .ok (.slice s41.a s41.len s41.cap) w39 ∧
                                ∃ (S42 : World → Prop),
                                S42 w39 ∧
                                ∃ (s42 : SV) (w40 : World),
                                Sem.run Pr (Builtin.append_ #[22, 22] 22 #[(.slice s41.a s41.len s41.cap), (.slice (cutAt σ1.2.1.a (Int.toNat σ2.1) σ1.2.1.cap 1) (σ1.2.1.len - (Int.toNat σ2.1)) (σ1.2.1.cap - (Int.toNat σ2.1)))]) w39 = .ok (.slice s42.a s42.len s42.cap) w40 ∧
                                ∃ (S43 : World → Prop),
                                S43 w40 ∧
                                K1 (IntKind.wrap .i64 (σ1.1 + 1), s42, ()) w40) ∧
                                ∃ (s43 : SV) (w41 : World),
                                Sem.run Pr (Instr.buildSlice 22 1 #[(0, (.slice s2.a s2.len s2.cap))]) (World.drew (World.drew (World.drew w3))) = .ok (.slice s43.a s43.len s43.cap) w41 ∧
                                ∃ (S44 : World → Prop),
                                S44 w41 ∧
                                ∃ (s44 : SV) (w42 : World),
                                Sem.run Pr (Instr.buildSlice 22 0 #[]) w41 = .ok (.slice s44.a s44.len s44.cap) w42 ∧
                                ∃ (S45 : World → Prop),
                                S45 w42 ∧
                                ∃ (s45 : SV) (w43 : World),
                                Sem.run Pr (Builtin.append_ #[22, 22] 22 #[(.slice s44.a s44.len s44.cap), (.slice (cutAt σ1.2.1.a 0 σ1.2.1.cap 1) ((Int.toNat σ2.1) - 0) (σ1.2.1.cap - 0))]) w42 = .ok (.slice s45.a s45.len s45.cap) w43 ∧
                                ∃ (S46 : World → Prop),
                                S46 w43 ∧
                                ∃ (s46 : SV) (w44 : World),
                                Sem.run Pr (Builtin.append_ #[22, 22] 22 #[(.slice s45.a s45.len s45.cap), (.slice s43.a s43.len s43.cap)]) w43 = .ok (.slice s46.a s46.len s46.cap) w44 ∧
                                ∃ (S47 : World → Prop),
                                S47 w44 ∧
                                ∃ (s47 : SV) (w45 : World),
                                Sem.run Pr (Builtin.append_ #[22, 22] 22 #[(.slice s46.a s46.len s46.cap), (.slice (cutAt σ1.2.1.a (Int.toNat σ2.1) σ1.2.1.cap 1) (σ1.2.1.len - (Int.toNat σ2.1)) (σ1.2.1.cap - (Int.toNat σ2.1)))]) w44 = .ok (.slice s47.a s47.len s47.cap) w45 ∧
                                ∃ (S48 : World → Prop),
                                S48 w45 ∧
                                K1 (IntKind.wrap .i64 (σ1.1 + 1), s47, ()) w45))
                        (∃ (S49 : World → Prop),
                          S49 (World.drew (World.drew (World.drew w3))) ∧
                          ((0 : Int) ≤ σ2.1 ∧ σ2.1 ≤ ((σ1.2.1.cap : Nat) : Int)) ∧
                          ((0 : Int) ≤ σ2.1 ∧ σ2.1 ≤ ((σ1.2.1.len : Nat) : Int)) ∧
                          (∃ (s48 : SV) (w46 : World),
                          Sem.run Pr (Instr.buildSlice 22 0 #[]) (World.drew (World.drew (World.drew w3))) = .ok (.slice s48.a s48.len s48.cap) w46 ∧
                          ∃ (S50 : World → Prop),
                          S50 w46 ∧
                          (∃ (s49 : SV) (w47 : World),
                          Sem.run Pr (Builtin.append_ #[22, 22] 22 #[(.slice s48.a s48.len s48.cap), (.slice (cutAt σ1.2.1.a 0 σ1.2.1.cap 1) ((Int.toNat σ2.1) - 0) (σ1.2.1.cap - 0))]) w46 = .ok (.slice s49.a s49.len s49.cap) w47 ∧
                          ∃ (S51 : World → Prop),
                          S51 w47 ∧
                          ∃ (s50 : SV) (w48 : World),
                          Sem.run Pr (Instr.buildSlice 22 1 #[(0, (.slice s2.a s2.len s2.cap))]) w47 = .ok (.slice s50.a s50.len s50.cap) w48 ∧
                          ∃ (S52 : World → Prop),
                          S52 w48 ∧
                          ∃ (s51 : SV) (w49 : World),
                          Sem.run Pr (Builtin.append_ #[22, 22] 22 #[(.slice s49.a s49.len s49.cap), (.slice s50.a s50.len s50.cap)]) w48 = .ok (.slice s51.a s51.len s51.cap) w49 ∧
                          ∃ (S53 : World → Prop),
                          S53 w49 ∧
                          ∃ (s52 : SV) (w50 : World),
                          Sem.run Pr (Builtin.append_ #[22, 22] 22 #[(.slice s51.a s51.len s51.cap), (.slice (cutAt σ1.2.1.a (Int.toNat σ2.1) σ1.2.1.cap 1) (σ1.2.1.len - (Int.toNat σ2.1)) (σ1.2.1.cap - (Int.toNat σ2.1)))]) w49 = .ok (.slice s52.a s52.len s52.cap) w50 ∧
                          ∃ (S54 : World → Prop),
                          S54 w50 ∧
                          K1 (IntKind.wrap .i64 (σ1.1 + 1), s52, ()) w50) ∧
                          ∃ (s53 : SV) (w51 : World),
                          Sem.run Pr (Instr.buildSlice 22 1 #[(0, (.slice s2.a s2.len s2.cap))]) w46 = .ok (.slice s53.a s53.len s53.cap) w51 ∧
                          ∃ (S55 : World → Prop),
                          S55 w51 ∧
                          ∃ (s54 : SV) (w52 : World),
                          Sem.run Pr (Builtin.append_ #[22, 22] 22 #[(.slice s48.a s48.len s48.cap), (.slice (cutAt σ1.2.1.a 0 σ1.2.1.cap 1) ((Int.toNat σ2.1) - 0) (σ1.2.1.cap - 0))]) w51 = .ok (.slice s54.a s54.len s54.cap) w52 ∧
                          ∃ (S56 : World → Prop),
                          S56 w52 ∧
                          ∃ (s55 : SV) (w53 : World),
                          Sem.run Pr (Builtin.append_ #[22, 22] 22 #[(.slice s54.a s54.len s54.cap), (.slice s53.a s53.len s53.cap)]) w52 = .ok (.slice s55.a s55.len s55.cap) w53 ∧
                          ∃ (S57 : World → Prop),
                          S57 w53 ∧
                          ∃ (s56 : SV) (w54 : World),
                          Sem.run Pr (Builtin.append_ #[22, 22] 22 #[(.slice s55.a s55.len s55.cap), (.slice (cutAt σ1.2.1.a (Int.toNat σ2.1) σ1.2.1.cap 1) (σ1.2.1.len - (Int.toNat σ2.1)) (σ1.2.1.cap - (Int.toNat σ2.1)))]) w53 = .ok (.slice s56.a s56.len s56.cap) w54 ∧
                          ∃ (S58 : World → Prop),
                          S58 w54 ∧
                          K1 (IntKind.wrap .i64 (σ1.1 + 1), s56, ()) w54) ∧
                          ∃ (s57 : SV) (w55 : World),
                          Sem.run Pr (Instr.buildSlice 22 1 #[(0, (.slice s2.a s2.len s2.cap))]) (World.drew (World.drew (World.drew w3))) = .ok (.slice s57.a s57.len s57.cap) w55 ∧
                          ∃ (S59 : World → Prop),
                          S59 w55 ∧
                          ∃ (s58 : SV) (w56 : World),
                          Sem.run Pr (Instr.buildSlice 22 0 #[]) w55 = .ok (.slice s58.a s58.len s58.cap) w56 ∧
                          ∃ (S60 : World → Prop),
                          S60 w56 ∧
                          ∃ (s59 : SV) (w57 : World),
                          Sem.run Pr (Builtin.append_ #[22, 22] 22 #[(.slice s58.a s58.len s58.cap), (.slice (cutAt σ1.2.1.a 0 σ1.2.1.cap 1) ((Int.toNat σ2.1) - 0) (σ1.2.1.cap - 0))]) w56 = .ok (.slice s59.a s59.len s59.cap) w57 ∧
                          ∃ (S61 : World → Prop),
                          S61 w57 ∧
                          ∃ (s60 : SV) (w58 : World),
                          Sem.run Pr (Builtin.append_ #[22, 22] 22 #[(.slice s59.a s59.len s59.cap), (.slice s57.a s57.len s57.cap)]) w57 = .ok (.slice s60.a s60.len s60.cap) w58 ∧
                          ∃ (S62 : World → Prop),
                          S62 w58 ∧
                          ∃ (s61 : SV) (w59 : World),
                          Sem.run Pr (Builtin.append_ #[22, 22] 22 #[(.slice s60.a s60.len s60.cap), (.slice (cutAt σ1.2.1.a (Int.toNat σ2.1) σ1.2.1.cap 1) (σ1.2.1.len - (Int.toNat σ2.1)) (σ1.2.1.cap - (Int.toNat σ2.1)))]) w58 = .ok (.slice s61.a s61.len s61.cap) w59 ∧
                          ∃ (S63 : World → Prop),
                          S63 w59 ∧
                          K1 (IntKind.wrap .i64 (σ1.1 + 1), s61, ()) w59))) (0, ()) w2))
        (R (.slice σ1.2.1.a σ1.2.1.len σ1.2.1.cap) w2)) (0, SV.mk none 0 0, ()) w1

theorem call26 {x0 : SV} {w0 : World} {R : Ending → World → Prop} (h : ir26 x0 w0 fun v w => R (.returned v) w) : Calls Pr 26 #[.slice x0.a x0.len x0.cap] w0 R := by
  refine calls_of_vc (ann := [(3, [(10, .int .i64), (3, .slice)]), (7, [(6, .int .i64)])]) (E := []) (args := [.slice x0.a x0.len x0.cap]) follows Try.func26 rfl (by kernel_rfl) ?_
  apply by_eq h
  kernel_rfl

/-- creel/run.All -/
def ir29 (x0 : SV) (w0 : World) (R : Value → World → Prop) : Prop :=
  ∃ (a1 : Addr) (w1 : World),
  Sem.run Pr (Instr.box 26 (.slice x0.a x0.len x0.cap)) w0 = .ok (.pointer (some a1)) w1 ∧
  R (.func (.func 89) #[] #[(.pointer (some a1))]) w1

theorem call29 {x0 : SV} {w0 : World} {R : Ending → World → Prop} (h : ir29 x0 w0 fun v w => R (.returned v) w) : Calls Pr 29 #[.slice x0.a x0.len x0.cap] w0 R := by
  refine calls_of_vc (ann := []) (E := []) (args := [.slice x0.a x0.len x0.cap]) follows Try.func29 rfl (by kernel_rfl) ?_
  apply by_eq h
  kernel_rfl

/-- creel/creelref03.Same -/
def ir30 (x0 : SV) (x1 : SV) (w0 : World) (R : Value → World → Prop) : Prop :=
  brc (((x0.len : Nat) : Int) != ((x1.len : Nat) : Int))
    (R (.bool false) w0)
    (LoopT (σ := Int × Unit) (fun σ1 w1 K1 =>
        ∀ _ : Env,
        brc (decide (σ1.1 < ((x0.len : Nat) : Int)))
          (∃ (S1 : World → Prop),
            S1 (World.drew w1) ∧
            ((0 : Int) ≤ σ1.1 ∧ σ1.1 < ((x0.len : Nat) : Int)) ∧
            optK x0.a fun a1 =>
              ∃ (s1 : SV),
              AtS Pr S1 (loadVar 26 (Addr.add a1 (Int.toNat σ1.1 * 1))) (.slice s1.a s1.len s1.cap) ∧
              ∃ (str1 : ByteArray),
              AtS Pr S1 (convert 26 9 (.slice s1.a s1.len s1.cap)) (.string str1) ∧
              ((0 : Int) ≤ σ1.1 ∧ σ1.1 < ((x1.len : Nat) : Int)) ∧
              optK x1.a fun a2 =>
                ∃ (s2 : SV),
                AtS Pr S1 (loadVar 26 (Addr.add a2 (Int.toNat σ1.1 * 1))) (.slice s2.a s2.len s2.cap) ∧
                ∃ (str2 : ByteArray),
                AtS Pr S1 (convert 26 9 (.slice s2.a s2.len s2.cap)) (.string str2) ∧
                brc (!(ByteArray.toList str1 == ByteArray.toList str2))
                  (R (.bool false) (World.drew w1))
                  (K1 (IntKind.wrap .i64 (σ1.1 + 1), ()) (World.drew w1)))
          (R (.bool true) w1)) (0, ()) w0)

theorem call30 {x0 : SV} {x1 : SV} {w0 : World} {R : Ending → World → Prop} (h : ir30 x0 x1 w0 fun v w => R (.returned v) w) : Calls Pr 30 #[.slice x0.a x0.len x0.cap, .slice x1.a x1.len x1.cap] w0 R := by
  refine calls_of_vc (ann := [(4, [(5, .int .i64)])]) (E := []) (args := [.slice x0.a x0.len x0.cap, .slice x1.a x1.len x1.cap]) follows Try.func30 rfl (by kernel_rfl) ?_
  apply by_eq h
  kernel_rfl

/-- creel/creelref13.List -/
def ir31 (x0 : SV) (w0 : World) (R : Value → World → Prop) : Prop :=
  Calls Pr 90 #[(.slice x0.a x0.len x0.cap)] w0 fun e1 w1 =>
    ∃ (s1 : SV) (n1 : Int),
    e1 = .returned (.tuple #[(.slice s1.a s1.len s1.cap), (.int .i64 n1)]) ∧
    LoopT (σ := Int × SV × Unit) (fun σ1 w2 K1 =>
      ∀ _ : Env,
      brc (decide (σ1.1 < ((s1.len : Nat) : Int)))
        (∃ (S1 : World → Prop),
          S1 (World.drew w2) ∧
          ((0 : Int) ≤ σ1.1 ∧ σ1.1 < ((s1.len : Nat) : Int)) ∧
          optK s1.a fun a1 =>
            ∃ (s2 : SV),
            AtS Pr S1 (loadVar 26 (Addr.add a1 (Int.toNat σ1.1 * 1))) (.slice s2.a s2.len s2.cap) ∧
            brc (decide (((s2.len : Nat) : Int) > (64 : Int)))
              (∃ (s3 : SV) (w3 : World),
                Sem.run Pr (Instr.buildSlice 52 1 #[(0, (.agg #[(.slice none 0 0), (.int .i64 6)]))]) (World.drew w2) = .ok (.slice s3.a s3.len s3.cap) w3 ∧
                ∃ (s4 : SV) (w4 : World),
                Sem.run Pr (Builtin.append_ #[52, 52] 52 #[(.slice σ1.2.1.a σ1.2.1.len σ1.2.1.cap), (.slice s3.a s3.len s3.cap)]) w3 = .ok (.slice s4.a s4.len s4.cap) w4 ∧
                R (.slice s4.a s4.len s4.cap) w4)
              (brc (decide (σ1.1 > (0 : Int)))
                  (((0 : Int) ≤ (IntKind.wrap .i64 (σ1.1 - 1)) ∧ (IntKind.wrap .i64 (σ1.1 - 1)) < ((s1.len : Nat) : Int)) ∧
                    optK s1.a fun a2 =>
                      ∃ (s5 : SV),
                      AtS Pr S1 (loadVar 26 (Addr.add a2 (Int.toNat (IntKind.wrap .i64 (σ1.1 - 1)) * 1))) (.slice s5.a s5.len s5.cap) ∧
                      ∃ (str1 : ByteArray),
                      AtS Pr S1 (convert 26 9 (.slice s5.a s5.len s5.cap)) (.string str1) ∧
                      ((0 : Int) ≤ σ1.1 ∧ σ1.1 < ((s1.len : Nat) : Int)) ∧
                      optK s1.a fun a3 =>
                        ∃ (s6 : SV),
                        AtS Pr S1 (loadVar 26 (Addr.add a3 (Int.toNat σ1.1 * 1))) (.slice s6.a s6.len s6.cap) ∧
                        ∃ (str2 : ByteArray),
                        AtS Pr S1 (convert 26 9 (.slice s6.a s6.len s6.cap)) (.string str2) ∧
                        brc (!(Op.bytesLess (ByteArray.toList str1) (ByteArray.toList str2)))
                          (∃ (s7 : SV) (w5 : World),
                            Sem.run Pr (Instr.buildSlice 52 1 #[(0, (.agg #[(.slice none 0 0), (.int .i64 6)]))]) (World.drew w2) = .ok (.slice s7.a s7.len s7.cap) w5 ∧
                            ∃ (s8 : SV) (w6 : World),
                            Sem.run Pr (Builtin.append_ #[52, 52] 52 #[(.slice σ1.2.1.a σ1.2.1.len σ1.2.1.cap), (.slice s7.a s7.len s7.cap)]) w5 = .ok (.slice s8.a s8.len s8.cap) w6 ∧
                            R (.slice s8.a s8.len s8.cap) w6)
                          (((0 : Int) ≤ σ1.1 ∧ σ1.1 < ((s1.len : Nat) : Int)) ∧
                            optK s1.a fun a4 =>
                              ∃ (s9 : SV),
                              At Pr (World.drew w2) (loadVar 26 (Addr.add a4 (Int.toNat σ1.1 * 1))) (.slice s9.a s9.len s9.cap) ∧
                              ∃ (s10 : SV) (w7 : World),
                              Sem.run Pr (Instr.buildSlice 52 1 #[(0, (.agg #[(.slice s9.a s9.len s9.cap), (.int .i64 0)]))]) (World.drew w2) = .ok (.slice s10.a s10.len s10.cap) w7 ∧
                              ∃ (s11 : SV) (w8 : World),
                              Sem.run Pr (Builtin.append_ #[52, 52] 52 #[(.slice σ1.2.1.a σ1.2.1.len σ1.2.1.cap), (.slice s10.a s10.len s10.cap)]) w7 = .ok (.slice s11.a s11.len s11.cap) w8 ∧
                              K1 (IntKind.wrap .i64 (σ1.1 + 1), s11, ()) w8))
                  (((0 : Int) ≤ σ1.1 ∧ σ1.1 < ((s1.len : Nat) : Int)) ∧
                    optK s1.a fun a5 =>
                      ∃ (s12 : SV),
                      At Pr (World.drew w2) (loadVar 26 (Addr.add a5 (Int.toNat σ1.1 * 1))) (.slice s12.a s12.len s12.cap) ∧
                      ∃ (s13 : SV) (w9 : World),
                      Sem.run Pr (Instr.buildSlice 52 1 #[(0, (.agg #[(.slice s12.a s12.len s12.cap), (.int .i64 0)]))]) (World.drew w2) = .ok (.slice s13.a s13.len s13.cap) w9 ∧
                      ∃ (s14 : SV) (w10 : World),
                      Sem.run Pr (Builtin.append_ #[52, 52] 52 #[(.slice σ1.2.1.a σ1.2.1.len σ1.2.1.cap), (.slice s13.a s13.len s13.cap)]) w9 = .ok (.slice s14.a s14.len s14.cap) w10 ∧
                      K1 (IntKind.wrap .i64 (σ1.1 + 1), s14, ()) w10)))
        (brc (decide (n1 < ((x0.len : Nat) : Int)))
            (∃ (s15 : SV) (w11 : World),
              Sem.run Pr (Instr.buildSlice 52 1 #[(0, (.agg #[(.slice none 0 0), (.int .i64 6)]))]) w2 = .ok (.slice s15.a s15.len s15.cap) w11 ∧
              ∃ (s16 : SV) (w12 : World),
              Sem.run Pr (Builtin.append_ #[52, 52] 52 #[(.slice σ1.2.1.a σ1.2.1.len σ1.2.1.cap), (.slice s15.a s15.len s15.cap)]) w11 = .ok (.slice s16.a s16.len s16.cap) w12 ∧
              R (.slice s16.a s16.len s16.cap) w12)
            (R (.slice σ1.2.1.a σ1.2.1.len σ1.2.1.cap) w2))) (0, SV.mk none 0 0, ()) w1

theorem call31 {x0 : SV} {w0 : World} {R : Ending → World → Prop} (h : ir31 x0 w0 fun v w => R (.returned v) w) : Calls Pr 31 #[.slice x0.a x0.len x0.cap] w0 R := by
  refine calls_of_vc (ann := [(4, [(6, .int .i64), (3, .slice)])]) (E := []) (args := [.slice x0.a x0.len x0.cap]) follows Try.func31 rfl (by kernel_rfl) ?_
  apply by_eq h
  kernel_rfl

/-- creel/run.Open -/
def ir34 (x0 : Option Addr) (x1 : ByteArray) (w0 : World) (R : Value → World → Prop) : Prop :=
  Calls Pr 28 #[(.pointer x0), (.string x1)] w0 fun e1 w1 =>
    ∃ (s1 : SV) (n1 : Int),
    e1 = .returned (.tuple #[(.slice s1.a s1.len s1.cap), (.int .i64 n1)]) ∧
    brc (n1 != (0 : Int))
      (R (.tuple #[(.pointer none), (.int .i64 n1)]) w1)
      (∃ (a1 : Addr) (w2 : World),
        Sem.run Pr (Instr.box 130 (.agg #[(.slice s1.a s1.len s1.cap), (.slice none 0 0), (.bool false), (.bool false)])) w1 = .ok (.pointer (some a1)) w2 ∧
        R (.tuple #[(.pointer (some a1)), (.int .i64 0)]) w2)

theorem call34 {x0 : Option Addr} {x1 : ByteArray} {w0 : World} {R : Ending → World → Prop} (h : ir34 x0 x1 w0 fun v w => R (.returned v) w) : Calls Pr 34 #[.pointer x0, .string x1] w0 R := by
  refine calls_of_vc (ann := []) (E := []) (args := [.pointer x0, .string x1]) follows Try.func34 rfl (by kernel_rfl) ?_
  apply by_eq h
  kernel_rfl

/-- creel/creellaw04.did -/
def ir39 (x0 : Option Addr) (x1_Kind : Int) (x1_Name : ByteArray) (x1_To : ByteArray) (x1_B : SV) (x1_N : Int) (x1_W_Names : Int) (x1_W_Bytes : SV) (w0 : World) (R : Value → World → Prop) : Prop :=
  ∃ (a1 : Addr) (w1 : World),
  Sem.run Pr (Instr.box 68 (.agg #[(.int .u8 x1_Kind), (.string x1_Name), (.string x1_To), (.slice x1_B.a x1_B.len x1_B.cap), (.int .i64 x1_N), (.int .i64 x1_W_Names), (.slice x1_W_Bytes.a x1_W_Bytes.len x1_W_Bytes.cap)])) w0 = .ok (.pointer (some a1)) w1 ∧
  ∃ (n1 : Int),
  At Pr w1 (loadVar 5 (Addr.add a1 0)) (.int .u8 n1) ∧
  (13 : Int) ≠ 0 ∧
  brc ((Int.tmod n1 13) == (0 : Int))
    (∃ (str1 : ByteArray),
      At Pr w1 (loadVar 9 (Addr.add a1 1)) (.string str1) ∧
      Calls Pr 96 #[(.pointer x0), (.string str1)] w1 fun e1 w2 =>
        ∃ (n2 : Int),
        e1 = .returned (.int .i64 n2) ∧
        R (.int .i64 n2) w2)
    (brc ((Int.tmod n1 13) == (4 : Int))
        (∃ (str2 : ByteArray),
          At Pr w1 (loadVar 9 (Addr.add a1 1)) (.string str2) ∧
          Calls Pr 64 #[(.pointer x0), (.string str2)] w1 fun e2 w3 =>
            ∃ (s1 : SV) (n3 : Int),
            e2 = .returned (.tuple #[(.slice s1.a s1.len s1.cap), (.int .i64 n3)]) ∧
            R (.int .i64 n3) w3)
        (brc ((Int.tmod n1 13) == (5 : Int))
            (∃ (str3 : ByteArray),
              At Pr w1 (loadVar 9 (Addr.add a1 1)) (.string str3) ∧
              Calls Pr 97 #[(.pointer x0), (.string str3)] w1 fun e3 w4 =>
                ∃ (n4 : Int),
                e3 = .returned (.int .i64 n4) ∧
                R (.int .i64 n4) w4)
            (brc ((Int.tmod n1 13) == (6 : Int))
                (∃ (str4 : ByteArray),
                  At Pr w1 (loadVar 9 (Addr.add a1 1)) (.string str4) ∧
                  ∃ (str5 : ByteArray),
                  At Pr w1 (loadVar 9 (Addr.add a1 2)) (.string str5) ∧
                  Calls Pr 98 #[(.pointer x0), (.string str4), (.string str5)] w1 fun e4 w5 =>
                    ∃ (n5 : Int),
                    e4 = .returned (.int .i64 n5) ∧
                    R (.int .i64 n5) w5)
                (brc ((Int.tmod n1 13) == (7 : Int))
                    (∃ (str6 : ByteArray),
                      At Pr w1 (loadVar 9 (Addr.add a1 1)) (.string str6) ∧
                      Calls Pr 99 #[(.pointer x0), (.string str6)] w1 fun e5 w6 =>
                        ∃ (n6 : Int),
                        e5 = .returned (.int .i64 n6) ∧
                        R (.int .i64 n6) w6)
                    (brc ((Int.tmod n1 13) == (8 : Int))
                        (Calls Pr 100 #[(.pointer x0)] w1 fun e6 w7 =>
                            ∃ (n7 : Int),
                            e6 = .returned (.int .i64 n7) ∧
                            R (.int .i64 n7) w7)
                        (brc ((Int.tmod n1 13) == (9 : Int))
                            (Calls Pr 101 #[(.pointer x0)] w1 fun e7 w8 =>
                                ∃ (s2 : SV) (n8 : Int),
                                e7 = .returned (.tuple #[(.slice s2.a s2.len s2.cap), (.int .i64 n8)]) ∧
                                R (.int .i64 n8) w8)
                            (brc ((Int.tmod n1 13) == (10 : Int))
                                (∃ (n9 : Int),
                                  At Pr w1 (loadVar 3 (Addr.add a1 4)) (.int .i64 n9) ∧
                                  Calls Pr 59 #[(.pointer x0), (.int .i64 n9)] w1 fun e8 w9 =>
                                    ∃ (n10 : Int),
                                    e8 = .returned (.int .i64 n10) ∧
                                    R (.int .i64 n10) w9)
                                (brc ((Int.tmod n1 13) == (11 : Int))
                                    (∃ (n11 : Int) (s3 : SV),
                                      At Pr w1 (loadVar 63 (Addr.add a1 5)) (.agg #[(.int .i64 n11), (.slice s3.a s3.len s3.cap)]) ∧
                                      Calls Pr 46 #[(.pointer x0), (.agg #[(.int .i64 n11), (.slice s3.a s3.len s3.cap)])] w1 fun e9 w10 =>
                                        ∃ (n12 : Int),
                                        e9 = .returned (.int .i64 n12) ∧
                                        R (.int .i64 n12) w10)
                                    (brc ((Int.tmod n1 13) == (12 : Int))
                                        (∃ (n13 : Int),
                                          At Pr w1 (loadVar 3 (Addr.add a1 4)) (.int .i64 n13) ∧
                                          Calls Pr 102 #[(.pointer x0), (.int .i64 n13)] w1 fun e10 w11 =>
                                            ∃ (n14 : Int),
                                            e10 = .returned (.int .i64 n14) ∧
                                            R (.int .i64 n14) w11)
                                        (∃ (str7 : ByteArray),
                                          At Pr w1 (loadVar 9 (Addr.add a1 1)) (.string str7) ∧
                                          ∃ (s4 : SV),
                                          At Pr w1 (loadVar 26 (Addr.add a1 3)) (.slice s4.a s4.len s4.cap) ∧
                                          Calls Pr 103 #[(.pointer x0), (.string str7), (.slice s4.a s4.len s4.cap)] w1 fun e11 w12 =>
                                            ∃ (n15 : Int),
                                            e11 = .returned (.int .i64 n15) ∧
                                            R (.int .i64 n15) w12))))))))))

theorem call39 {x0 : Option Addr} {x1_Kind : Int} {x1_Name : ByteArray} {x1_To : ByteArray} {x1_B : SV} {x1_N : Int} {x1_W_Names : Int} {x1_W_Bytes : SV} {w0 : World} {R : Ending → World → Prop} (h : ir39 x0 x1_Kind x1_Name x1_To x1_B x1_N x1_W_Names x1_W_Bytes w0 fun v w => R (.returned v) w) : Calls Pr 39 #[.pointer x0, .agg #[(.int .u8 x1_Kind), (.string x1_Name), (.string x1_To), (.slice x1_B.a x1_B.len x1_B.cap), (.int .i64 x1_N), (.int .i64 x1_W_Names), (.slice x1_W_Bytes.a x1_W_Bytes.len x1_W_Bytes.cap)]] w0 R := by
  refine calls_of_vc (ann := []) (E := []) (args := [.pointer x0, .agg #[(.int .u8 x1_Kind), (.string x1_Name), (.string x1_To), (.slice x1_B.a x1_B.len x1_B.cap), (.int .i64 x1_N), (.int .i64 x1_W_Names), (.slice x1_W_Bytes.a x1_W_Bytes.len x1_W_Bytes.cap)]]) follows Try.func39 rfl (by kernel_rfl) ?_
  apply by_eq h
  kernel_rfl

/-- creel/creellaw13.few -/
def ir61 (x0 : SV) (w0 : World) (R : Value → World → Prop) : Prop :=
  LoopT (σ := Int × SV × Unit) (fun σ1 w1 K1 =>
    ∀ _ : Env,
    brc (decide (σ1.1 < ((x0.len : Nat) : Int)))
      (((0 : Int) ≤ σ1.1 ∧ σ1.1 < ((x0.len : Nat) : Int)) ∧
        optK x0.a fun a1 =>
          ∃ (s1 : SV),
          At Pr w1 (loadVar 26 (Addr.add a1 (Int.toNat σ1.1 * 1))) (.slice s1.a s1.len s1.cap) ∧
          brc (decide (σ1.1 < (60 : Int)))
            (brc (decide (((s1.len : Nat) : Int) ≤ (80 : Int)))
                (∃ (s2 : SV) (w2 : World),
                  Sem.run Pr (Instr.buildSlice 22 1 #[(0, (.slice s1.a s1.len s1.cap))]) w1 = .ok (.slice s2.a s2.len s2.cap) w2 ∧
                  ∃ (s3 : SV) (w3 : World),
                  Sem.run Pr (Builtin.append_ #[22, 22] 22 #[(.slice σ1.2.1.a σ1.2.1.len σ1.2.1.cap), (.slice s2.a s2.len s2.cap)]) w2 = .ok (.slice s3.a s3.len s3.cap) w3 ∧
                  K1 (IntKind.wrap .i64 (σ1.1 + 1), s3, ()) w3)
                (K1 (IntKind.wrap .i64 (σ1.1 + 1), σ1.2.1, ()) w1))
            (K1 (IntKind.wrap .i64 (σ1.1 + 1), σ1.2.1, ()) w1))
      (R (.slice σ1.2.1.a σ1.2.1.len σ1.2.1.cap) w1)) (0, SV.mk none 0 0, ()) w0

theorem call61 {x0 : SV} {w0 : World} {R : Ending → World → Prop} (h : ir61 x0 w0 fun v w => R (.returned v) w) : Calls Pr 61 #[.slice x0.a x0.len x0.cap] w0 R := by
  refine calls_of_vc (ann := [(3, [(8, .int .i64), (3, .slice)])]) (E := []) (args := [.slice x0.a x0.len x0.cap]) follows Try.func61 rfl (by kernel_rfl) ?_
  apply by_eq h
  kernel_rfl

/-- (*creel/creelref13.Writer).Add -/
def ir62 (x0 : Option Addr) (x1 : SV) (w0 : World) (R : Value → World → Prop) : Prop :=
  brc (decide (((x1.len : Nat) : Int) > (64 : Int)))
    (R (.int .i64 3) w0)
    (∃ (S1 : World → Prop),
      S1 (World.drew w0) ∧
      optK x0 fun a1 =>
        ∃ (s1 : SV),
        AtS Pr S1 (loadVar 22 (Addr.add a1 1)) (.slice s1.a s1.len s1.cap) ∧
        brc (decide (((s1.len : Nat) : Int) > (0 : Int)))
          (optK x0 fun a2 =>
              ∃ (s2 : SV),
              AtS Pr S1 (loadVar 22 (Addr.add a2 1)) (.slice s2.a s2.len s2.cap) ∧
              optK x0 fun a3 =>
                ∃ (s3 : SV),
                AtS Pr S1 (loadVar 22 (Addr.add a3 1)) (.slice s3.a s3.len s3.cap) ∧
                ((0 : Int) ≤ (IntKind.wrap .i64 (((s3.len : Nat) : Int) - 1)) ∧ (IntKind.wrap .i64 (((s3.len : Nat) : Int) - 1)) < ((s2.len : Nat) : Int)) ∧
                optK s2.a fun a4 =>
                  ∃ (s4 : SV),
                  AtS Pr S1 (loadVar 26 (Addr.add a4 (Int.toNat (IntKind.wrap .i64 (((s3.len : Nat) : Int) - 1)) * 1))) (.slice s4.a s4.len s4.cap) ∧
                  ∃ (str1 : ByteArray),
                  AtS Pr S1 (convert 26 9 (.slice s4.a s4.len s4.cap)) (.string str1) ∧
                  ∃ (str2 : ByteArray),
                  AtS Pr S1 (convert 26 9 (.slice x1.a x1.len x1.cap)) (.string str2) ∧
                  brc (!(Op.bytesLess (ByteArray.toList str1) (ByteArray.toList str2)))
                    (R (.int .i64 130) (World.drew w0))
                    (Calls Pr 70 #[(.slice none 0 0), (.slice x1.a x1.len x1.cap)] (World.drew w0) fun e1 w1 =>
                        ∃ (s5 : SV) (n1 : Int),
                        e1 = .returned (.tuple #[(.slice s5.a s5.len s5.cap), (.int .i64 n1)]) ∧
                        optK x0 fun a5 =>
                          ∃ (p1 : Option Addr),
                          At Pr w1 (loadVar 64 (Addr.add a5 0)) (.pointer p1) ∧
                          Calls Pr 103 #[(.pointer p1), (.string (⟨#[116, 109, 112]⟩ : ByteArray)), (.slice s5.a s5.len s5.cap)] w1 fun e2 w2 =>
                            ∃ (n2 : Int),
                            e2 = .returned (.int .i64 n2) ∧
                            brc (n2 == (0 : Int))
                              (∃ (S2 : World → Prop),
                                S2 (World.drew w2) ∧
                                optK x0 fun a6 =>
                                  ∃ (s6 : SV),
                                  AtS Pr S2 (loadVar 22 (Addr.add a6 1)) (.slice s6.a s6.len s6.cap) ∧
                                  ∃ (s7 : SV) (w3 : World),
                                  Sem.run Pr (Instr.buildSlice 26 0 #[]) (World.drew w2) = .ok (.slice s7.a s7.len s7.cap) w3 ∧
                                  ∃ (S3 : World → Prop),
                                  (∀ w, S3 w → S2 w) ∧
                                  S3 w3 ∧
                                  ∃ (s8 : SV) (w4 : World),
                                  Sem.run Pr (Builtin.append_ #[26, 26] 26 #[(.slice s7.a s7.len s7.cap), (.slice x1.a x1.len x1.cap)]) w3 = .ok (.slice s8.a s8.len s8.cap) w4 ∧
                                  ∃ (S4 : World → Prop),
                                  (∀ w, S4 w → S3 w) ∧
                                  S4 w4 ∧
                                  ∃ (s9 : SV) (w5 : World),
                                  Sem.run Pr (Instr.buildSlice 22 1 #[(0, (.slice s8.a s8.len s8.cap))]) w4 = .ok (.slice s9.a s9.len s9.cap) w5 ∧
                                  ∃ (S5 : World → Prop),
                                  (∀ w, S5 w → S4 w) ∧
                                  S5 w5 ∧
                                  ∃ (s10 : SV) (w6 : World),
                                  Sem.run Pr (Builtin.append_ #[22, 22] 22 #[(.slice s6.a s6.len s6.cap), (.slice s9.a s9.len s9.cap)]) w5 = .ok (.slice s10.a s10.len s10.cap) w6 ∧
                                  ∃ (S6 : World → Prop),
                                  S6 w6 ∧
                                  optK x0 fun a7 =>
                                    ∃ (w7 : World),
                                    Sem.run Pr (Instr.storeAt 22 (.pointer (some (Addr.add a7 1))) (.slice s10.a s10.len s10.cap)) w6 = .ok () w7 ∧
                                    ∃ (S7 : World → Prop),
                                    S7 w7 ∧
                                    R (.int .i64 n2) w7)
                              (R (.int .i64 n2) w2)))
          (Calls Pr 70 #[(.slice none 0 0), (.slice x1.a x1.len x1.cap)] (World.drew w0) fun e3 w8 =>
              ∃ (s11 : SV) (n3 : Int),
              e3 = .returned (.tuple #[(.slice s11.a s11.len s11.cap), (.int .i64 n3)]) ∧
              optK x0 fun a8 =>
                ∃ (p2 : Option Addr),
                At Pr w8 (loadVar 64 (Addr.add a8 0)) (.pointer p2) ∧
                Calls Pr 103 #[(.pointer p2), (.string (⟨#[116, 109, 112]⟩ : ByteArray)), (.slice s11.a s11.len s11.cap)] w8 fun e4 w9 =>
                  ∃ (n4 : Int),
                  e4 = .returned (.int .i64 n4) ∧
                  brc (n4 == (0 : Int))
                    (∃ (S8 : World → Prop),
                      S8 (World.drew w9) ∧
                      optK x0 fun a9 =>
                        ∃ (s12 : SV),
                        AtS Pr S8 (loadVar 22 (Addr.add a9 1)) (.slice s12.a s12.len s12.cap) ∧
                        ∃ (s13 : SV) (w10 : World),
                        Sem.run Pr (Instr.buildSlice 26 0 #[]) (World.drew w9) = .ok (.slice s13.a s13.len s13.cap) w10 ∧
                        ∃ (S9 : World → Prop),
                        (∀ w, S9 w → S8 w) ∧
                        S9 w10 ∧
                        ∃ (s14 : SV) (w11 : World),
                        Sem.run Pr (Builtin.append_ #[26, 26] 26 #[(.slice s13.a s13.len s13.cap), (.slice x1.a x1.len x1.cap)]) w10 = .ok (.slice s14.a s14.len s14.cap) w11 ∧
                        ∃ (S10 : World → Prop),
                        (∀ w, S10 w → S9 w) ∧
                        S10 w11 ∧
                        ∃ (s15 : SV) (w12 : World),
                        Sem.run Pr (Instr.buildSlice 22 1 #[(0, (.slice s14.a s14.len s14.cap))]) w11 = .ok (.slice s15.a s15.len s15.cap) w12 ∧
                        ∃ (S11 : World → Prop),
                        (∀ w, S11 w → S10 w) ∧
                        S11 w12 ∧
                        ∃ (s16 : SV) (w13 : World),
                        Sem.run Pr (Builtin.append_ #[22, 22] 22 #[(.slice s12.a s12.len s12.cap), (.slice s15.a s15.len s15.cap)]) w12 = .ok (.slice s16.a s16.len s16.cap) w13 ∧
                        ∃ (S12 : World → Prop),
                        S12 w13 ∧
                        optK x0 fun a10 =>
                          ∃ (w14 : World),
                          Sem.run Pr (Instr.storeAt 22 (.pointer (some (Addr.add a10 1))) (.slice s16.a s16.len s16.cap)) w13 = .ok () w14 ∧
                          ∃ (S13 : World → Prop),
                          S13 w14 ∧
                          R (.int .i64 n4) w14)
                    (R (.int .i64 n4) w9)))

theorem call62 {x0 : Option Addr} {x1 : SV} {w0 : World} {R : Ending → World → Prop} (h : ir62 x0 x1 w0 fun v w => R (.returned v) w) : Calls Pr 62 #[.pointer x0, .slice x1.a x1.len x1.cap] w0 R := by
  refine calls_of_vc (ann := []) (E := []) (args := [.pointer x0, .slice x1.a x1.len x1.cap]) follows Try.func62 rfl (by kernel_rfl) ?_
  apply by_eq h
  kernel_rfl

/-- creel/creellaw13.put -/
def ir65 (x0 : Option Addr) (x1 : SV) (w0 : World) (R : Value → World → Prop) : Prop :=
  Calls Pr 27 #[(.pointer x0)] w0 fun e1 w1 =>
    ∃ (p1 : Option Addr) (n1 : Int),
    e1 = .returned (.tuple #[(.pointer p1), (.int .i64 n1)]) ∧
    brc (Option.isNone p1)
      (R (.bool false) w1)
      (brc (n1 != (0 : Int))
          (R (.bool false) w1)
          (LoopT (σ := Int × Unit) (fun σ1 w2 K1 =>
              ∀ _ : Env,
              brc (decide (σ1.1 < ((x1.len : Nat) : Int)))
                (((0 : Int) ≤ σ1.1 ∧ σ1.1 < ((x1.len : Nat) : Int)) ∧
                  optK x1.a fun a1 =>
                    ∃ (s1 : SV),
                    At Pr w2 (loadVar 26 (Addr.add a1 (Int.toNat σ1.1 * 1))) (.slice s1.a s1.len s1.cap) ∧
                    Calls Pr 22 #[(.pointer p1), (.slice s1.a s1.len s1.cap)] w2 fun e2 w3 =>
                      ∃ (n2 : Int),
                      e2 = .returned (.int .i64 n2) ∧
                      brc (n2 != (0 : Int))
                        (R (.bool false) w3)
                        (K1 (IntKind.wrap .i64 (σ1.1 + 1), ()) w3))
                (Calls Pr 23 #[(.pointer p1), (.string (⟨#[120]⟩ : ByteArray))] w2 fun e3 w4 =>
                    ∃ (n3 : Int),
                    e3 = .returned (.int .i64 n3) ∧
                    R (.bool (n3 == (0 : Int))) w4)) (0, ()) w1))

theorem call65 {x0 : Option Addr} {x1 : SV} {w0 : World} {R : Ending → World → Prop} (h : ir65 x0 x1 w0 fun v w => R (.returned v) w) : Calls Pr 65 #[.pointer x0, .slice x1.a x1.len x1.cap] w0 R := by
  refine calls_of_vc (ann := [(5, [(22, .int .i64)])]) (E := []) (args := [.pointer x0, .slice x1.a x1.len x1.cap]) follows Try.func65 rfl (by kernel_rfl) ?_
  apply by_eq h
  kernel_rfl

/-- creel/frame.Take -/
def ir82 (x0 : SV) (w0 : World) (R : Value → World → Prop) : Prop :=
  Calls Pr 135 #[(.slice x0.a x0.len x0.cap)] w0 fun e1 w1 =>
    ∃ (s1 : SV) (n1 : Int) (n2 : Int),
    e1 = .returned (.tuple #[(.slice s1.a s1.len s1.cap), (.int .i64 n1), (.int .i64 n2)]) ∧
    brc (n2 != (0 : Int))
      (R (.tuple #[(.slice none 0 0), (.slice none 0 0), (.int .i64 n2)]) w1)
      (∃ (S1 : World → Prop),
        S1 (World.drew w1) ∧
        ((0 : Int) ≤ n1 ∧ n1 ≤ ((x0.len : Nat) : Int)) ∧
        Calls Pr 88 #[(.slice s1.a s1.len s1.cap)] (World.drew w1) fun e2 w2 =>
          ∃ (s2 : SV),
          e2 = .returned (.slice s2.a s2.len s2.cap) ∧
          ∃ (S2 : World → Prop),
          S2 w2 ∧
          Calls Pr 88 #[(.slice (cutAt x0.a (Int.toNat n1) x0.cap 1) (x0.len - (Int.toNat n1)) (x0.cap - (Int.toNat n1)))] w2 fun e3 w3 =>
            ∃ (s3 : SV),
            e3 = .returned (.slice s3.a s3.len s3.cap) ∧
            ∃ (S3 : World → Prop),
            S3 w3 ∧
            R (.tuple #[(.slice s2.a s2.len s2.cap), (.slice s3.a s3.len s3.cap), (.int .i64 0)]) w3)

theorem call82 {x0 : SV} {w0 : World} {R : Ending → World → Prop} (h : ir82 x0 w0 fun v w => R (.returned v) w) : Calls Pr 82 #[.slice x0.a x0.len x0.cap] w0 R := by
  refine calls_of_vc (ann := []) (E := []) (args := [.slice x0.a x0.len x0.cap]) follows Try.func82 rfl (by kernel_rfl) ?_
  apply by_eq h
  kernel_rfl

/-- creel/run.All$1 -/
def ir89 (x0 : FV) (c0 : Addr) (w0 : World) (R : Value → World → Prop) : Prop :=
  ∃ (s1 : SV),
  At Pr w0 (loadVar 26 c0) (.slice s1.a s1.len s1.cap) ∧
  Calls Pr 88 #[(.slice s1.a s1.len s1.cap)] w0 fun e1 w1 =>
    ∃ (s2 : SV),
    e1 = .returned (.slice s2.a s2.len s2.cap) ∧
    ∃ (a1 : Addr) (w2 : World),
    Sem.run Pr (Instr.box 130 (.agg #[(.slice s2.a s2.len s2.cap), (.slice none 0 0), (.bool false), (.bool false)])) w1 = .ok (.pointer (some a1)) w2 ∧
    Calls Pr 21 #[(.pointer (some a1))] w2 fun e2 w3 =>
      ∃ (s3 : SV) (b1 : Bool) (n1 : Int),
      e2 = .returned (.tuple #[(.agg #[(.slice s3.a s3.len s3.cap), (.bool b1)]), (.int .i64 n1)]) ∧
      ∃ (a2 : Addr) (w4 : World),
      Sem.run Pr (Instr.alloc 34 true (.tuple #[])) w3 = .ok (.pointer (some a2)) w4 ∧
      ∃ (w5 : World),
      Sem.run Pr (Instr.storeAt 34 (.pointer (some a2)) (.agg #[(.slice s3.a s3.len s3.cap), (.bool b1)])) w4 = .ok () w5 ∧
      LoopT (σ := Addr × Int × Unit) (fun σ1 w6 K1 =>
        ∀ _ : Env,
        ∃ (b2 : Bool),
        At Pr w6 (loadVar 4 (Addr.add σ1.1 1)) (.bool b2) ∧
        brc (b2)
          (∃ (s4 : SV),
            At Pr w6 (loadVar 26 (Addr.add σ1.1 0)) (.slice s4.a s4.len s4.cap) ∧
            callV Pr (.func x0.f x0.a x0.b) [(.slice s4.a s4.len s4.cap), (.int .i64 σ1.2.1)] w6 fun e3 w7 =>
              ∃ (b3 : Bool),
              e3 = .returned (.bool b3) ∧
              brc (!b3)
                (R (.tuple #[]) w7)
                (brc (σ1.2.1 != (0 : Int))
                    (R (.tuple #[]) w7)
                    (∃ (s5 : SV) (b4 : Bool),
                      At Pr w7 (loadVar 34 σ1.1) (.agg #[(.slice s5.a s5.len s5.cap), (.bool b4)]) ∧
                      ∃ (a3 : Addr) (w8 : World),
                      Sem.run Pr (Instr.alloc 34 true (.tuple #[])) w7 = .ok (.pointer (some a3)) w8 ∧
                      ∃ (w9 : World),
                      Sem.run Pr (Instr.storeAt 34 (.pointer (some a3)) (.agg #[(.slice s5.a s5.len s5.cap), (.bool b4)])) w8 = .ok () w9 ∧
                      Calls Pr 21 #[(.pointer (some a1))] w9 fun e4 w10 =>
                        ∃ (s6 : SV) (b5 : Bool) (n2 : Int),
                        e4 = .returned (.tuple #[(.agg #[(.slice s6.a s6.len s6.cap), (.bool b5)]), (.int .i64 n2)]) ∧
                        ∃ (w11 : World),
                        Sem.run Pr (Instr.storeAt 34 (.pointer (some a3)) (.agg #[(.slice s6.a s6.len s6.cap), (.bool b5)])) w10 = .ok () w11 ∧
                        K1 (a3, n2, ()) w11)))
          (brc (σ1.2.1 != (0 : Int))
              (∃ (s7 : SV),
                At Pr w6 (loadVar 26 (Addr.add σ1.1 0)) (.slice s7.a s7.len s7.cap) ∧
                callV Pr (.func x0.f x0.a x0.b) [(.slice s7.a s7.len s7.cap), (.int .i64 σ1.2.1)] w6 fun e5 w12 =>
                  ∃ (b6 : Bool),
                  e5 = .returned (.bool b6) ∧
                  brc (!b6)
                    (R (.tuple #[]) w12)
                    (brc (σ1.2.1 != (0 : Int))
                        (R (.tuple #[]) w12)
                        (∃ (s8 : SV) (b7 : Bool),
                          At Pr w12 (loadVar 34 σ1.1) (.agg #[(.slice s8.a s8.len s8.cap), (.bool b7)]) ∧
                          ∃ (a4 : Addr) (w13 : World),
                          Sem.run Pr (Instr.alloc 34 true (.tuple #[])) w12 = .ok (.pointer (some a4)) w13 ∧
                          ∃ (w14 : World),
                          Sem.run Pr (Instr.storeAt 34 (.pointer (some a4)) (.agg #[(.slice s8.a s8.len s8.cap), (.bool b7)])) w13 = .ok () w14 ∧
                          Calls Pr 21 #[(.pointer (some a1))] w14 fun e6 w15 =>
                            ∃ (s9 : SV) (b8 : Bool) (n3 : Int),
                            e6 = .returned (.tuple #[(.agg #[(.slice s9.a s9.len s9.cap), (.bool b8)]), (.int .i64 n3)]) ∧
                            ∃ (w16 : World),
                            Sem.run Pr (Instr.storeAt 34 (.pointer (some a4)) (.agg #[(.slice s9.a s9.len s9.cap), (.bool b8)])) w15 = .ok () w16 ∧
                            K1 (a4, n3, ()) w16)))
              (R (.tuple #[]) w6))) (a2, n1, ()) w5

theorem call89 {x0 : FV} {c0 : Addr} {w0 : World} {R : Ending → World → Prop} (h : ir89 x0 c0 w0 fun v w => R (.returned v) w) : Calls Pr 89 #[.func x0.f x0.a x0.b, .pointer (some c0)] w0 R := by
  refine calls_of_vc (ann := [(2, [(4, .adr), (5, .int .i64)])]) (E := []) (args := [.func x0.f x0.a x0.b, .pointer (some c0)]) follows Try.func89 rfl (by kernel_rfl) ?_
  apply by_eq h
  kernel_rfl

/-- creel/creelref03.All -/
def ir90 (x0 : SV) (w0 : World) (R : Value → World → Prop) : Prop :=
  LoopT (σ := SV × SV × Int × Unit) (fun σ1 w1 K1 =>
    ∀ _ : Env,
    Calls Pr 139 #[(.slice σ1.1.a σ1.1.len σ1.1.cap)] w1 fun e1 w2 =>
      ∃ (s1 : SV) (s2 : SV) (n1 : Int),
      e1 = .returned (.tuple #[(.slice s1.a s1.len s1.cap), (.slice s2.a s2.len s2.cap), (.int .i64 n1)]) ∧
      brc (n1 != (0 : Int))
        (R (.tuple #[(.slice σ1.2.1.a σ1.2.1.len σ1.2.1.cap), (.int .i64 σ1.2.2.1)]) w2)
        (∃ (s3 : SV) (w3 : World),
          Sem.run Pr (Instr.buildSlice 22 1 #[(0, (.slice s1.a s1.len s1.cap))]) w2 = .ok (.slice s3.a s3.len s3.cap) w3 ∧
          ∃ (s4 : SV) (w4 : World),
          Sem.run Pr (Builtin.append_ #[22, 22] 22 #[(.slice σ1.2.1.a σ1.2.1.len σ1.2.1.cap), (.slice s3.a s3.len s3.cap)]) w3 = .ok (.slice s4.a s4.len s4.cap) w4 ∧
          K1 (s2, s4, IntKind.wrap .i64 ((IntKind.wrap .i64 (σ1.2.2.1 + ((s1.len : Nat) : Int))) + 8), ()) w4)) (x0, SV.mk none 0 0, 0, ()) w0

theorem call90 {x0 : SV} {w0 : World} {R : Ending → World → Prop} (h : ir90 x0 w0 fun v w => R (.returned v) w) : Calls Pr 90 #[.slice x0.a x0.len x0.cap] w0 R := by
  refine calls_of_vc (ann := [(3, [(0, .slice), (4, .slice), (5, .int .i64)])]) (E := []) (args := [.slice x0.a x0.len x0.cap]) follows Try.func90 rfl (by kernel_rfl) ?_
  apply by_eq h
  kernel_rfl

/-- creel/frame.All -/
def ir127 (x0 : SV) (w0 : World) (R : Value → World → Prop) : Prop :=
  LoopT (σ := Int × SV × Unit) (fun σ1 w1 K1 =>
    ∀ _ : Env,
    ((0 : Int) ≤ σ1.1 ∧ σ1.1 ≤ ((x0.len : Nat) : Int)) ∧
    Calls Pr 135 #[(.slice (cutAt x0.a (Int.toNat σ1.1) x0.cap 1) (x0.len - (Int.toNat σ1.1)) (x0.cap - (Int.toNat σ1.1)))] w1 fun e1 w2 =>
      ∃ (s1 : SV) (n1 : Int) (n2 : Int),
      e1 = .returned (.tuple #[(.slice s1.a s1.len s1.cap), (.int .i64 n1), (.int .i64 n2)]) ∧
      brc (n2 != (0 : Int))
        (R (.tuple #[(.slice σ1.2.1.a σ1.2.1.len σ1.2.1.cap), (.int .i64 σ1.1)]) w2)
        (Calls Pr 88 #[(.slice s1.a s1.len s1.cap)] w2 fun e2 w3 =>
            ∃ (s2 : SV),
            e2 = .returned (.slice s2.a s2.len s2.cap) ∧
            ∃ (s3 : SV) (w4 : World),
            Sem.run Pr (Instr.buildSlice 22 1 #[(0, (.slice s2.a s2.len s2.cap))]) w3 = .ok (.slice s3.a s3.len s3.cap) w4 ∧
            ∃ (s4 : SV) (w5 : World),
            Sem.run Pr (Builtin.append_ #[22, 22] 22 #[(.slice σ1.2.1.a σ1.2.1.len σ1.2.1.cap), (.slice s3.a s3.len s3.cap)]) w4 = .ok (.slice s4.a s4.len s4.cap) w5 ∧
            K1 (IntKind.wrap .i64 (σ1.1 + n1), s4, ()) w5)) (0, SV.mk none 0 0, ()) w0

theorem call127 {x0 : SV} {w0 : World} {R : Ending → World → Prop} (h : ir127 x0 w0 fun v w => R (.returned v) w) : Calls Pr 127 #[.slice x0.a x0.len x0.cap] w0 R := by
  refine calls_of_vc (ann := [(3, [(5, .int .i64), (4, .slice)])]) (E := []) (args := [.slice x0.a x0.len x0.cap]) follows Try.func127 rfl (by kernel_rfl) ?_
  apply by_eq h
  kernel_rfl

/-- creel/frame.take -/
def ir135 (x0 : SV) (w0 : World) (R : Value → World → Prop) : Prop :=
  Calls Pr 153 #[(.slice x0.a x0.len x0.cap)] w0 fun e1 w1 =>
    ∃ (n1 : Int) (n2 : Int),
    e1 = .returned (.tuple #[(.int .i64 n1), (.int .i64 n2)]) ∧
    brc (n2 != (0 : Int))
      (R (.tuple #[(.slice none 0 0), (.int .i64 0), (.int .i64 n2)]) w1)
      (((0 : Int) ≤ (IntKind.wrap .i64 (n1 + 4)) ∧ (IntKind.wrap .i64 (n1 + 4)) ≤ ((x0.cap : Nat) : Int)) ∧
        Calls Pr 154 #[(.slice (cutAt x0.a 0 x0.cap 1) ((Int.toNat (IntKind.wrap .i64 (n1 + 4))) - 0) (x0.cap - 0))] w1 fun e2 w2 =>
          ∃ (b1 : Bool),
          e2 = .returned (.bool b1) ∧
          brc (!b1)
            (R (.tuple #[(.slice none 0 0), (.int .i64 0), (.int .i64 6)]) w2)
            (((0 : Int) ≤ n1 ∧ n1 ≤ ((x0.cap : Nat) : Int)) ∧
              ((0 : Int) ≤ 4 ∧ 4 ≤ ((Int.toNat n1 : Nat) : Int)) ∧
              R (.tuple #[(.slice (cutAt x0.a (Int.toNat 4) x0.cap 1) ((Int.toNat n1) - (Int.toNat 4)) (x0.cap - (Int.toNat 4))), (.int .i64 (IntKind.wrap .i64 (n1 + 4))), (.int .i64 0)]) w2))

theorem call135 {x0 : SV} {w0 : World} {R : Ending → World → Prop} (h : ir135 x0 w0 fun v w => R (.returned v) w) : Calls Pr 135 #[.slice x0.a x0.len x0.cap] w0 R := by
  refine calls_of_vc (ann := []) (E := []) (args := [.slice x0.a x0.len x0.cap]) follows Try.func135 rfl (by kernel_rfl) ?_
  apply by_eq h
  kernel_rfl

/-- creel/creelref03.Take -/
def ir139 (x0 : SV) (w0 : World) (R : Value → World → Prop) : Prop :=
  Calls Pr 157 #[(.slice x0.a x0.len x0.cap), (.int .i64 4)] w0 fun e1 w1 =>
    ∃ (n1 : Int) (s1 : SV) (n2 : Int),
    e1 = .returned (.tuple #[(.int .u64 n1), (.slice s1.a s1.len s1.cap), (.int .i64 n2)]) ∧
    brc (n2 != (0 : Int))
      (R (.tuple #[(.slice none 0 0), (.slice none 0 0), (.int .i64 5)]) w1)
      (brc (decide (n1 > (4096 : Int)))
          (R (.tuple #[(.slice none 0 0), (.slice none 0 0), (.int .i64 6)]) w1)
          (brc (decide (((x0.len : Nat) : Int) < (IntKind.wrap .i64 ((IntKind.wrap .i64 ((IntKind.wrap .i64 n1) + 4)) + 4))))
              (R (.tuple #[(.slice none 0 0), (.slice none 0 0), (.int .i64 5)]) w1)
              (((0 : Int) ≤ (IntKind.wrap .i64 ((IntKind.wrap .i64 ((IntKind.wrap .i64 n1) + 4)) + 4)) ∧ (IntKind.wrap .i64 ((IntKind.wrap .i64 ((IntKind.wrap .i64 n1) + 4)) + 4)) ≤ ((x0.cap : Nat) : Int)) ∧
                Calls Pr 158 #[(.slice (cutAt x0.a 0 x0.cap 1) ((Int.toNat (IntKind.wrap .i64 ((IntKind.wrap .i64 ((IntKind.wrap .i64 n1) + 4)) + 4))) - 0) (x0.cap - 0))] w1 fun e2 w2 =>
                  ∃ (s2 : SV) (n3 : Int),
                  e2 = .returned (.tuple #[(.slice s2.a s2.len s2.cap), (.int .i64 n3)]) ∧
                  brc (n3 != (0 : Int))
                    (R (.tuple #[(.slice none 0 0), (.slice none 0 0), (.int .i64 6)]) w2)
                    (∃ (S1 : World → Prop),
                      S1 (World.drew w2) ∧
                      ((0 : Int) ≤ (IntKind.wrap .i64 ((IntKind.wrap .i64 n1) + 4)) ∧ (IntKind.wrap .i64 ((IntKind.wrap .i64 n1) + 4)) ≤ ((x0.cap : Nat) : Int)) ∧
                      ((0 : Int) ≤ 4 ∧ 4 ≤ ((Int.toNat (IntKind.wrap .i64 ((IntKind.wrap .i64 n1) + 4)) : Nat) : Int)) ∧
                      ((0 : Int) ≤ (IntKind.wrap .i64 ((IntKind.wrap .i64 ((IntKind.wrap .i64 n1) + 4)) + 4)) ∧ (IntKind.wrap .i64 ((IntKind.wrap .i64 ((IntKind.wrap .i64 n1) + 4)) + 4)) ≤ ((x0.len : Nat) : Int)) ∧
                      (∃ (s3 : SV) (w3 : World),
                      Sem.run Pr (Instr.buildSlice 26 0 #[]) (World.drew w2) = .ok (.slice s3.a s3.len s3.cap) w3 ∧
                      ∃ (S2 : World → Prop),
                      S2 w3 ∧
                      (∃ (s4 : SV) (w4 : World),
                      Sem.run Pr (Builtin.append_ #[26, 26] 26 #[(.slice s3.a s3.len s3.cap), (.slice (cutAt x0.a (Int.toNat 4) x0.cap 1) ((Int.toNat (IntKind.wrap .i64 ((IntKind.wrap .i64 n1) + 4))) - (Int.toNat 4)) (x0.cap - (Int.toNat 4)))]) w3 = .ok (.slice s4.a s4.len s4.cap) w4 ∧
                      ∃ (S3 : World → Prop),
                      S3 w4 ∧
                      ∃ (s5 : SV) (w5 : World),
                      Sem.run Pr (Instr.buildSlice 26 0 #[]) w4 = .ok (.slice s5.a s5.len s5.cap) w5 ∧
                      ∃ (S4 : World → Prop),
                      S4 w5 ∧
                      ∃ (s6 : SV) (w6 : World),
                      Sem.run Pr (Builtin.append_ #[26, 26] 26 #[(.slice s5.a s5.len s5.cap), (.slice (cutAt x0.a (Int.toNat (IntKind.wrap .i64 ((IntKind.wrap .i64 ((IntKind.wrap .i64 n1) + 4)) + 4))) x0.cap 1) (x0.len - (Int.toNat (IntKind.wrap .i64 ((IntKind.wrap .i64 ((IntKind.wrap .i64 n1) + 4)) + 4)))) (x0.cap - (Int.toNat (IntKind.wrap .i64 ((IntKind.wrap .i64 ((IntKind.wrap .i64 n1) + 4)) + 4)))))]) w5 = .ok (.slice s6.a s6.len s6.cap) w6 ∧
                      ∃ (S5 : World → Prop),
                      S5 w6 ∧
                      R (.tuple #[(.slice s4.a s4.len s4.cap), (.slice s6.a s6.len s6.cap), (.int .i64 0)]) w6) ∧
                      ∃ (s7 : SV) (w7 : World),
                      Sem.run Pr (Instr.buildSlice 26 0 #[]) w3 = .ok (.slice s7.a s7.len s7.cap) w7 ∧
                      ∃ (S6 : World → Prop),
                      S6 w7 ∧
                      ∃ (s8 : SV) (w8 : World),
                      Sem.run Pr (Builtin.append_ #[26, 26] 26 #[(.slice s3.a s3.len s3.cap), (.slice (cutAt x0.a (Int.toNat 4) x0.cap 1) ((Int.toNat (IntKind.wrap .i64 ((IntKind.wrap .i64 n1) + 4))) - (Int.toNat 4)) (x0.cap - (Int.toNat 4)))]) w7 = .ok (.slice s8.a s8.len s8.cap) w8 ∧
                      ∃ (S7 : World → Prop),
                      S7 w8 ∧
                      ∃ (s9 : SV) (w9 : World),
                      Sem.run Pr (Builtin.append_ #[26, 26] 26 #[(.slice s7.a s7.len s7.cap), (.slice (cutAt x0.a (Int.toNat (IntKind.wrap .i64 ((IntKind.wrap .i64 ((IntKind.wrap .i64 n1) + 4)) + 4))) x0.cap 1) (x0.len - (Int.toNat (IntKind.wrap .i64 ((IntKind.wrap .i64 ((IntKind.wrap .i64 n1) + 4)) + 4)))) (x0.cap - (Int.toNat (IntKind.wrap .i64 ((IntKind.wrap .i64 ((IntKind.wrap .i64 n1) + 4)) + 4)))))]) w8 = .ok (.slice s9.a s9.len s9.cap) w9 ∧
                      ∃ (S8 : World → Prop),
                      S8 w9 ∧
                      R (.tuple #[(.slice s8.a s8.len s8.cap), (.slice s9.a s9.len s9.cap), (.int .i64 0)]) w9) ∧
                      ∃ (s10 : SV) (w10 : World),
                      Sem.run Pr (Instr.buildSlice 26 0 #[]) (World.drew w2) = .ok (.slice s10.a s10.len s10.cap) w10 ∧
                      ∃ (S9 : World → Prop),
                      S9 w10 ∧
                      ∃ (s11 : SV) (w11 : World),
                      Sem.run Pr (Instr.buildSlice 26 0 #[]) w10 = .ok (.slice s11.a s11.len s11.cap) w11 ∧
                      ∃ (S10 : World → Prop),
                      S10 w11 ∧
                      ∃ (s12 : SV) (w12 : World),
                      Sem.run Pr (Builtin.append_ #[26, 26] 26 #[(.slice s11.a s11.len s11.cap), (.slice (cutAt x0.a (Int.toNat 4) x0.cap 1) ((Int.toNat (IntKind.wrap .i64 ((IntKind.wrap .i64 n1) + 4))) - (Int.toNat 4)) (x0.cap - (Int.toNat 4)))]) w11 = .ok (.slice s12.a s12.len s12.cap) w12 ∧
                      ∃ (S11 : World → Prop),
                      S11 w12 ∧
                      ∃ (s13 : SV) (w13 : World),
                      Sem.run Pr (Builtin.append_ #[26, 26] 26 #[(.slice s10.a s10.len s10.cap), (.slice (cutAt x0.a (Int.toNat (IntKind.wrap .i64 ((IntKind.wrap .i64 ((IntKind.wrap .i64 n1) + 4)) + 4))) x0.cap 1) (x0.len - (Int.toNat (IntKind.wrap .i64 ((IntKind.wrap .i64 ((IntKind.wrap .i64 n1) + 4)) + 4)))) (x0.cap - (Int.toNat (IntKind.wrap .i64 ((IntKind.wrap .i64 ((IntKind.wrap .i64 n1) + 4)) + 4)))))]) w12 = .ok (.slice s13.a s13.len s13.cap) w13 ∧
                      ∃ (S12 : World → Prop),
                      S12 w13 ∧
                      R (.tuple #[(.slice s12.a s12.len s12.cap), (.slice s13.a s13.len s13.cap), (.int .i64 0)]) w13))))

theorem call139 {x0 : SV} {w0 : World} {R : Ending → World → Prop} (h : ir139 x0 w0 fun v w => R (.returned v) w) : Calls Pr 139 #[.slice x0.a x0.len x0.cap] w0 R := by
  refine calls_of_vc (ann := []) (E := []) (args := [.slice x0.a x0.len x0.cap]) follows Try.func139 rfl (by kernel_rfl) ?_
  apply by_eq h
  kernel_rfl

/-- slices.Chunk[[]byte,byte] -/
def ir147 (x0 : SV) (x1 : Int) (w0 : World) (R : Value → World → Prop) : Prop :=
  ∃ (a1 : Addr) (w1 : World),
  Sem.run Pr (Instr.box 26 (.slice x0.a x0.len x0.cap)) w0 = .ok (.pointer (some a1)) w1 ∧
  ∃ (a2 : Addr) (w2 : World),
  Sem.run Pr (Instr.box 3 (.int .i64 x1)) w1 = .ok (.pointer (some a2)) w2 ∧
  ∃ (n1 : Int),
  At Pr w2 (loadVar 3 a2) (.int .i64 n1) ∧
  brc (decide (n1 < (1 : Int)))
    (∃ (v1 : Value),
      At Pr w2 (Instr.makeInterface 9 (.string (⟨#[99, 97, 110, 110, 111, 116, 32, 98, 101, 32, 108, 101, 115, 115, 32, 116, 104, 97, 110, 32, 49]⟩ : ByteArray))) v1 ∧
      False)
    (R (.func (.func 161) #[] #[(.pointer (some a1)), (.pointer (some a2))]) w2)

theorem call147 {x0 : SV} {x1 : Int} {w0 : World} {R : Ending → World → Prop} (h : ir147 x0 x1 w0 fun v w => R (.returned v) w) : Calls Pr 147 #[.slice x0.a x0.len x0.cap, .int .i64 x1] w0 R := by
  refine calls_of_vc (ann := []) (E := []) (args := [.slice x0.a x0.len x0.cap, .int .i64 x1]) follows Try.func147 rfl (by kernel_rfl) ?_
  apply by_eq h
  kernel_rfl

/-- creel/frame.span -/
def ir153 (x0 : SV) (w0 : World) (R : Value → World → Prop) : Prop :=
  ((0 : Int) ≤ (if 4 < ((x0.len : Nat) : Int) then 4 else ((x0.len : Nat) : Int)) ∧ (if 4 < ((x0.len : Nat) : Int) then 4 else ((x0.len : Nat) : Int)) ≤ ((x0.cap : Nat) : Int)) ∧
  Calls Pr 165 #[(.slice (cutAt x0.a 0 x0.cap 1) ((Int.toNat (if 4 < ((x0.len : Nat) : Int) then 4 else ((x0.len : Nat) : Int))) - 0) (x0.cap - 0)), (.int .i64 4)] w0 fun e1 w1 =>
    ∃ (n1 : Int) (s1 : SV) (n2 : Int),
    e1 = .returned (.tuple #[(.int .u64 n1), (.slice s1.a s1.len s1.cap), (.int .i64 n2)]) ∧
    brc (n2 != (0 : Int))
      (R (.tuple #[(.int .i64 0), (.int .i64 5)]) w1)
      (brc (decide (n1 > (4096 : Int)))
          (R (.tuple #[(.int .i64 0), (.int .i64 6)]) w1)
          (brc (decide (((x0.len : Nat) : Int) < (IntKind.wrap .i64 (8 + (IntKind.wrap .i64 n1)))))
              (R (.tuple #[(.int .i64 0), (.int .i64 5)]) w1)
              (R (.tuple #[(.int .i64 (IntKind.wrap .i64 (4 + (IntKind.wrap .i64 n1)))), (.int .i64 0)]) w1)))

theorem call153 {x0 : SV} {w0 : World} {R : Ending → World → Prop} (h : ir153 x0 w0 fun v w => R (.returned v) w) : Calls Pr 153 #[.slice x0.a x0.len x0.cap] w0 R := by
  refine calls_of_vc (ann := []) (E := []) (args := [.slice x0.a x0.len x0.cap]) follows Try.func153 rfl (by kernel_rfl) ?_
  apply by_eq h
  kernel_rfl

/-- creel/frame.sealed -/
def ir154 (x0 : SV) (w0 : World) (R : Value → World → Prop) : Prop :=
  ((0 : Int) ≤ (IntKind.wrap .i64 (((x0.len : Nat) : Int) - 4)) ∧ (IntKind.wrap .i64 (((x0.len : Nat) : Int) - 4)) ≤ ((x0.cap : Nat) : Int)) ∧
  Calls Pr 137 #[(.slice (cutAt x0.a 0 x0.cap 1) ((Int.toNat (IntKind.wrap .i64 (((x0.len : Nat) : Int) - 4))) - 0) (x0.cap - 0))] w0 fun e1 w1 =>
    ∃ (s1 : SV),
    e1 = .returned (.slice s1.a s1.len s1.cap) ∧
    Calls Pr 166 #[(.slice s1.a s1.len s1.cap), (.slice x0.a x0.len x0.cap)] w1 fun e2 w2 =>
      ∃ (b1 : Bool),
      e2 = .returned (.bool b1) ∧
      R (.bool b1) w2

theorem call154 {x0 : SV} {w0 : World} {R : Ending → World → Prop} (h : ir154 x0 w0 fun v w => R (.returned v) w) : Calls Pr 154 #[.slice x0.a x0.len x0.cap] w0 R := by
  refine calls_of_vc (ann := []) (E := []) (args := [.slice x0.a x0.len x0.cap]) follows Try.func154 rfl (by kernel_rfl) ?_
  apply by_eq h
  kernel_rfl

/-- creel/creelref01.Unfix -/
def ir157 (x0 : SV) (x1 : Int) (w0 : World) (R : Value → World → Prop) : Prop :=
  brc (decide (x1 < (1 : Int)))
    (R (.tuple #[(.int .u64 0), (.slice none 0 0), (.int .i64 1)]) w0)
    (brc (decide (x1 > (8 : Int)))
        (R (.tuple #[(.int .u64 0), (.slice none 0 0), (.int .i64 1)]) w0)
        (brc (decide (((x0.len : Nat) : Int) < x1))
            (R (.tuple #[(.int .u64 0), (.slice none 0 0), (.int .i64 5)]) w0)
            (LoopT (σ := Int × Int × Unit) (fun σ1 w1 K1 =>
                ∀ _ : Env,
                brc (decide (σ1.1 < x1))
                  (((0 : Int) ≤ σ1.1 ∧ σ1.1 < ((x0.len : Nat) : Int)) ∧
                    optK x0.a fun a1 =>
                      ∃ (n1 : Int),
                      At Pr w1 (loadVar 5 (Addr.add a1 (Int.toNat σ1.1 * 1))) (.int .u8 n1) ∧
                      K1 (IntKind.wrap .i64 (σ1.1 + 1), IntKind.wrap .u64 ((IntKind.wrap .u64 (σ1.2.1 * 256)) + (IntKind.wrap .u64 n1)), ()) w1)
                  (∃ (s1 : SV) (w2 : World),
                    Sem.run Pr (Instr.buildSlice 26 0 #[]) w1 = .ok (.slice s1.a s1.len s1.cap) w2 ∧
                    ((0 : Int) ≤ x1 ∧ x1 ≤ ((x0.len : Nat) : Int)) ∧
                    ∃ (s2 : SV) (w3 : World),
                    Sem.run Pr (Builtin.append_ #[26, 26] 26 #[(.slice s1.a s1.len s1.cap), (.slice (cutAt x0.a (Int.toNat x1) x0.cap 1) (x0.len - (Int.toNat x1)) (x0.cap - (Int.toNat x1)))]) w2 = .ok (.slice s2.a s2.len s2.cap) w3 ∧
                    R (.tuple #[(.int .u64 σ1.2.1), (.slice s2.a s2.len s2.cap), (.int .i64 0)]) w3)) (0, 0, ()) w0)))

theorem call157 {x0 : SV} {x1 : Int} {w0 : World} {R : Ending → World → Prop} (h : ir157 x0 x1 w0 fun v w => R (.returned v) w) : Calls Pr 157 #[.slice x0.a x0.len x0.cap, .int .i64 x1] w0 R := by
  refine calls_of_vc (ann := [(7, [(8, .int .i64), (7, .int .u64)])]) (E := []) (args := [.slice x0.a x0.len x0.cap, .int .i64 x1]) follows Try.func157 rfl (by kernel_rfl) ?_
  apply by_eq h
  kernel_rfl

/-- creel/creelref03.Unseal -/
def ir158 (x0 : SV) (w0 : World) (R : Value → World → Prop) : Prop :=
  brc (decide (((x0.len : Nat) : Int) < (4 : Int)))
    (R (.tuple #[(.slice none 0 0), (.int .i64 5)]) w0)
    (∃ (s1 : SV) (w1 : World),
      Sem.run Pr (Instr.buildSlice 26 0 #[]) w0 = .ok (.slice s1.a s1.len s1.cap) w1 ∧
      ((0 : Int) ≤ (IntKind.wrap .i64 (((x0.len : Nat) : Int) - 4)) ∧ (IntKind.wrap .i64 (((x0.len : Nat) : Int) - 4)) ≤ ((x0.cap : Nat) : Int)) ∧
      ∃ (s2 : SV) (w2 : World),
      Sem.run Pr (Builtin.append_ #[26, 26] 26 #[(.slice s1.a s1.len s1.cap), (.slice (cutAt x0.a 0 x0.cap 1) ((Int.toNat (IntKind.wrap .i64 (((x0.len : Nat) : Int) - 4))) - 0) (x0.cap - 0))]) w1 = .ok (.slice s2.a s2.len s2.cap) w2 ∧
      ∃ (S1 : World → Prop),
      S1 (World.drew w2) ∧
      ∃ (str1 : ByteArray),
      AtS Pr S1 (convert 26 9 (.slice x0.a x0.len x0.cap)) (.string str1) ∧
      Calls Pr 128 #[(.slice s2.a s2.len s2.cap)] (World.drew w2) fun e1 w3 =>
        ∃ (s3 : SV),
        e1 = .returned (.slice s3.a s3.len s3.cap) ∧
        ∃ (S2 : World → Prop),
        (∀ w, S2 w → S1 w) ∧
        S2 w3 ∧
        ∃ (str2 : ByteArray),
        AtS Pr S2 (convert 26 9 (.slice s3.a s3.len s3.cap)) (.string str2) ∧
        brc (!(ByteArray.toList str2 == ByteArray.toList str1))
          (R (.tuple #[(.slice none 0 0), (.int .i64 6)]) w3)
          (R (.tuple #[(.slice s2.a s2.len s2.cap), (.int .i64 0)]) w3))

theorem call158 {x0 : SV} {w0 : World} {R : Ending → World → Prop} (h : ir158 x0 w0 fun v w => R (.returned v) w) : Calls Pr 158 #[.slice x0.a x0.len x0.cap] w0 R := by
  refine calls_of_vc (ann := []) (E := []) (args := [.slice x0.a x0.len x0.cap]) follows Try.func158 rfl (by kernel_rfl) ?_
  apply by_eq h
  kernel_rfl

/-- slices.Chunk[[]byte,byte]$1 -/
def ir161 (x0 : FV) (c0 : Addr) (c1 : Addr) (w0 : World) (R : Value → World → Prop) : Prop :=
  LoopT (σ := Int × Unit) (fun σ1 w1 K1 =>
    ∀ _ : Env,
    ∃ (s1 : SV),
    At Pr w1 (loadVar 26 c0) (.slice s1.a s1.len s1.cap) ∧
    brc (decide (σ1.1 < ((s1.len : Nat) : Int)))
      (∃ (S1 : World → Prop),
        S1 (World.drew w1) ∧
        ∃ (n1 : Int),
        AtS Pr S1 (loadVar 3 c1) (.int .i64 n1) ∧
        ∃ (s2 : SV),
        AtS Pr S1 (loadVar 26 c0) (.slice s2.a s2.len s2.cap) ∧
        ((0 : Int) ≤ σ1.1 ∧ σ1.1 ≤ ((s2.len : Nat) : Int)) ∧
        ∃ (s3 : SV),
        At Pr (World.drew w1) (loadVar 26 c0) (.slice s3.a s3.len s3.cap) ∧
        ((0 : Int) ≤ (IntKind.wrap .i64 (σ1.1 + (if ((s2.len - (Int.toNat σ1.1) : Nat) : Int) < n1 then ((s2.len - (Int.toNat σ1.1) : Nat) : Int) else n1))) ∧ (IntKind.wrap .i64 (σ1.1 + (if ((s2.len - (Int.toNat σ1.1) : Nat) : Int) < n1 then ((s2.len - (Int.toNat σ1.1) : Nat) : Int) else n1))) ≤ ((s3.cap : Nat) : Int)) ∧
        ((0 : Int) ≤ (IntKind.wrap .i64 (σ1.1 + (if ((s2.len - (Int.toNat σ1.1) : Nat) : Int) < n1 then ((s2.len - (Int.toNat σ1.1) : Nat) : Int) else n1))) ∧ (IntKind.wrap .i64 (σ1.1 + (if ((s2.len - (Int.toNat σ1.1) : Nat) : Int) < n1 then ((s2.len - (Int.toNat σ1.1) : Nat) : Int) else n1))) ≤ ((Int.toNat (IntKind.wrap .i64 (σ1.1 + (if ((s2.len - (Int.toNat σ1.1) : Nat) : Int) < n1 then ((s2.len - (Int.toNat σ1.1) : Nat) : Int) else n1))) : Nat) : Int)) ∧
        ((0 : Int) ≤ σ1.1 ∧ σ1.1 ≤ ((Int.toNat (IntKind.wrap .i64 (σ1.1 + (if ((s2.len - (Int.toNat σ1.1) : Nat) : Int) < n1 then ((s2.len - (Int.toNat σ1.1) : Nat) : Int) else n1))) : Nat) : Int)) ∧
        callV Pr (.func x0.f x0.a x0.b) [(.slice (cutAt s3.a (Int.toNat σ1.1) (Int.toNat (IntKind.wrap .i64 (σ1.1 + (if ((s2.len - (Int.toNat σ1.1) : Nat) : Int) < n1 then ((s2.len - (Int.toNat σ1.1) : Nat) : Int) else n1)))) 1) ((Int.toNat (IntKind.wrap .i64 (σ1.1 + (if ((s2.len - (Int.toNat σ1.1) : Nat) : Int) < n1 then ((s2.len - (Int.toNat σ1.1) : Nat) : Int) else n1)))) - (Int.toNat σ1.1)) ((Int.toNat (IntKind.wrap .i64 (σ1.1 + (if ((s2.len - (Int.toNat σ1.1) : Nat) : Int) < n1 then ((s2.len - (Int.toNat σ1.1) : Nat) : Int) else n1)))) - (Int.toNat σ1.1)))] (World.drew w1) fun e1 w2 =>
          ∃ (b1 : Bool),
          e1 = .returned (.bool b1) ∧
          brc (!b1)
            (R (.tuple #[]) w2)
            (∃ (n2 : Int),
              At Pr w2 (loadVar 3 c1) (.int .i64 n2) ∧
              K1 (IntKind.wrap .i64 (σ1.1 + n2), ()) w2))
      (R (.tuple #[]) w1)) (0, ()) w0

theorem call161 {x0 : FV} {c0 : Addr} {c1 : Addr} {w0 : World} {R : Ending → World → Prop} (h : ir161 x0 c0 c1 w0 fun v w => R (.returned v) w) : Calls Pr 161 #[.func x0.f x0.a x0.b, .pointer (some c0), .pointer (some c1)] w0 R := by
  refine calls_of_vc (ann := [(1, [(4, .int .i64)])]) (E := []) (args := [.func x0.f x0.a x0.b, .pointer (some c0), .pointer (some c1)]) follows Try.func161 rfl (by kernel_rfl) ?_
  apply by_eq h
  kernel_rfl

/-- creel/vary.Unfix -/
def ir165 (x0 : SV) (x1 : Int) (w0 : World) (R : Value → World → Prop) : Prop :=
  brc (decide (x1 < (1 : Int)))
    (R (.tuple #[(.int .u64 0), (.slice none 0 0), (.int .i64 1)]) w0)
    (brc (decide (x1 > (8 : Int)))
        (R (.tuple #[(.int .u64 0), (.slice none 0 0), (.int .i64 1)]) w0)
        (brc (decide (((x0.len : Nat) : Int) < x1))
            (R (.tuple #[(.int .u64 0), (.slice none 0 0), (.int .i64 5)]) w0)
            (((0 : Int) ≤ x1 ∧ x1 ≤ ((x0.cap : Nat) : Int)) ∧
              LoopT (σ := Int × Int × Unit) (fun σ1 w1 K1 =>
                ∀ _ : Env,
                brc (decide (σ1.1 < (((Int.toNat x1) - 0 : Nat) : Int)))
                  (((0 : Int) ≤ σ1.1 ∧ σ1.1 < (((Int.toNat x1) - 0 : Nat) : Int)) ∧
                    optK (cutAt x0.a 0 x0.cap 1) fun a1 =>
                      ∃ (n1 : Int),
                      At Pr w1 (loadVar 5 (Addr.add a1 (Int.toNat σ1.1 * 1))) (.int .u8 n1) ∧
                      (0 : Int) ≤ 8 ∧
                      K1 (IntKind.wrap .i64 (σ1.1 + 1), IntKind.wrap .u64 ((BitVec.ofInt (IntKind.bits .u64) (IntKind.wrap .u64 (σ1.2.1 * 2 ^ (min (Int.toNat 8) (IntKind.bits .u64)))) ||| BitVec.ofInt (IntKind.bits .u64) (IntKind.wrap .u64 n1)).toNat), ()) w1)
                  (((0 : Int) ≤ x1 ∧ x1 ≤ ((x0.len : Nat) : Int)) ∧
                    Calls Pr 88 #[(.slice (cutAt x0.a (Int.toNat x1) x0.cap 1) (x0.len - (Int.toNat x1)) (x0.cap - (Int.toNat x1)))] w1 fun e1 w2 =>
                      ∃ (s1 : SV),
                      e1 = .returned (.slice s1.a s1.len s1.cap) ∧
                      R (.tuple #[(.int .u64 σ1.2.1), (.slice s1.a s1.len s1.cap), (.int .i64 0)]) w2)) (0, 0, ()) w0)))

theorem call165 {x0 : SV} {x1 : Int} {w0 : World} {R : Ending → World → Prop} (h : ir165 x0 x1 w0 fun v w => R (.returned v) w) : Calls Pr 165 #[.slice x0.a x0.len x0.cap, .int .i64 x1] w0 R := by
  refine calls_of_vc (ann := [(7, [(26, .int .i64), (7, .int .u64)])]) (E := []) (args := [.slice x0.a x0.len x0.cap, .int .i64 x1]) follows Try.func165 rfl (by kernel_rfl) ?_
  apply by_eq h
  kernel_rfl

/-- slices.Equal[[]byte,byte] -/
def ir166 (x0 : SV) (x1 : SV) (w0 : World) (R : Value → World → Prop) : Prop :=
  brc (((x0.len : Nat) : Int) != ((x1.len : Nat) : Int))
    (R (.bool false) w0)
    (LoopT (σ := Int × Unit) (fun σ1 w1 K1 =>
        ∀ _ : Env,
        brc (decide (σ1.1 < ((x0.len : Nat) : Int)))
          (∃ (S1 : World → Prop),
            S1 (World.drew w1) ∧
            ((0 : Int) ≤ σ1.1 ∧ σ1.1 < ((x0.len : Nat) : Int)) ∧
            optK x0.a fun a1 =>
              ∃ (n1 : Int),
              AtS Pr S1 (loadVar 5 (Addr.add a1 (Int.toNat σ1.1 * 1))) (.int .u8 n1) ∧
              ((0 : Int) ≤ σ1.1 ∧ σ1.1 < ((x1.len : Nat) : Int)) ∧
              optK x1.a fun a2 =>
                ∃ (n2 : Int),
                AtS Pr S1 (loadVar 5 (Addr.add a2 (Int.toNat σ1.1 * 1))) (.int .u8 n2) ∧
                brc (n1 != n2)
                  (R (.bool false) (World.drew w1))
                  (K1 (IntKind.wrap .i64 (σ1.1 + 1), ()) (World.drew w1)))
          (R (.bool true) w1)) (0, ()) w0)

theorem call166 {x0 : SV} {x1 : SV} {w0 : World} {R : Ending → World → Prop} (h : ir166 x0 x1 w0 fun v w => R (.returned v) w) : Calls Pr 166 #[.slice x0.a x0.len x0.cap, .slice x1.a x1.len x1.cap] w0 R := by
  refine calls_of_vc (ann := [(4, [(13, .int .i64)])]) (E := []) (args := [.slice x0.a x0.len x0.cap, .slice x1.a x1.len x1.cap]) follows Try.func166 rfl (by kernel_rfl) ?_
  apply by_eq h
  kernel_rfl

end Go.Proofs.Ytonjaaljnjjjcaa

/- A heap assertion: blocks that are known whole, each once; and what operations do to it. Conditions: as each lemma says. -/
set_option linter.unusedVariables false
set_option linter.unusedSimpArgs false
namespace Go.Proofs.Ytonjaaljnjjjcaa
open Go Go.RowKit

/-! ### Sums over lists: which list is part of which -/
def ms {α : Type} (f : α → Nat) : List α → Nat
  | [] => 0
  | x :: l => f x + ms f l

theorem ms_nil {α : Type} (f : α → Nat) : ms f [] = 0 := rfl
theorem ms_cons {α : Type} (f : α → Nat) (x : α) (l : List α) : ms f (x :: l) = f x + ms f l := rfl
theorem ms_append {α : Type} (f : α → Nat) (l l' : List α) : ms f (l ++ l') = ms f l + ms f l' := by
  induction l with
  | nil => simp [ms]
  | cons x l ih => simp [ms, ih]; omega
theorem ms_perm {α : Type} (f : α → Nat) {l l' : List α} (h : l.Perm l') : ms f l = ms f l' := by
  induction h with
  | nil => rfl
  | cons x _ ih => simp [ms, ih]
  | swap x y l => simp [ms]; omega
  | trans _ _ ih ih' => rw [ih, ih']

/-- Part of a list, counted. -/
def Part {α : Type} (l' l : List α) : Prop := ∀ f : α → Nat, ms f l' ≤ ms f l
theorem Part.refl {α : Type} (l : List α) : Part l l := fun _ => Nat.le_refl _
theorem Part.trans {α : Type} {a b c : List α} (h : Part a b) (h' : Part b c) : Part a c := fun f => Nat.le_trans (h f) (h' f)
theorem Part.of_perm {α : Type} {l l' : List α} (h : l'.Perm l) : Part l' l := fun f => Nat.le_of_eq (ms_perm f h)

open Classical in
theorem ms_pos {α : Type} {f : α → Nat} {l : List α} {x : α} (hx : x ∈ l) : f x ≤ ms f l := by
  induction l with
  | nil => cases hx
  | cons y l ih =>
    rcases List.mem_cons.1 hx with rfl | h
    · simp [ms]
    · have := ih h; simp [ms]; omega

theorem ms_zero {α : Type} {f : α → Nat} {l : List α} (h : ∀ x ∈ l, f x = 0) : ms f l = 0 := by
  induction l with
  | nil => rfl
  | cons y l ih => simp [ms, h y, ih fun x hx => h x (List.mem_cons_of_mem _ hx)]

open Classical in
theorem Part.mem {α : Type} {l' l : List α} (h : Part l' l) {x : α} (hx : x ∈ l') : x ∈ l := by
  refine Classical.byContradiction fun hn => ?_
  have h1 := h (fun y => if y = x then 1 else 0)
  have h2 : (1 : Nat) ≤ ms (fun y => if y = x then 1 else 0) l' := by
    have := ms_pos (f := fun y => if y = x then 1 else 0) hx
    simpa using this
  have h3 : ms (fun y => if y = x then 1 else 0) l = 0 := ms_zero fun y hy => if_neg fun (e : y = x) => hn (e ▸ hy)
  omega

abbrev Chunk := Nat × Obj

/-- Is it that block's? -/
def at1 (b : Nat) (c : Chunk) : Nat := if c.1 = b then 1 else 0

/-- In w the blocks of L are these, each stands once in L; the outside is E's. -/
structure Sep (E w : World) (L : List Chunk) : Prop where
  os : w.os = E.os
  tape : w.tape = E.tape
  output : w.output = E.output
  uniq : ∀ b, ms (at1 b) L ≤ 1
  at_ : ∀ c ∈ L, w.heap[c.1]? = some c.2

theorem Sep.weak {E w : World} {L L' : List Chunk} (h : Sep E w L) (hp : Part L' L) : Sep E w L' :=
  ⟨h.os, h.tape, h.output, fun b => Nat.le_trans (hp _) (h.uniq b), fun c hc => h.at_ c (hp.mem hc)⟩

theorem Sep.drew {E w : World} {L : List Chunk} (h : Sep E w L) : Sep E w.drew L := ⟨h.os, h.tape, h.output, h.uniq, h.at_⟩

theorem Sep.lt {E w : World} {L : List Chunk} (h : Sep E w L) {c : Chunk} (hc : c ∈ L) : c.1 < w.heap.size := by
  have := h.at_ c hc
  exact (Array.getElem?_eq_some_iff.1 this).1

theorem Sep.ne {E w : World} {L : List Chunk} {b b' : Nat} {o o' : Obj} (h : Sep E w ((b, o) :: L)) (hc : (b', o') ∈ L) : b' ≠ b := fun e => by
  subst e
  have h1 := h.uniq b'
  have h2 := ms_pos (f := at1 b') hc
  simp [ms, at1] at h1 h2
  omega

/-- A new block. -/
theorem Sep.push {E w : World} {L : List Chunk} (h : Sep E w L) (o : Obj) : Sep E { w with heap := w.heap.push o } ((w.heap.size, o) :: L) := by
  refine ⟨h.os, h.tape, h.output, fun b => ?_, fun c hc => ?_⟩
  · by_cases hb : w.heap.size = b
    · have : ms (at1 b) L = 0 := ms_zero fun c hc => by
        have := h.lt hc
        simp [at1]; omega
      simp [ms, at1, hb] at this ⊢
      omega
    · have := h.uniq b
      simp [ms, at1, hb] at this ⊢
      exact this
  · rcases List.mem_cons.1 hc with rfl | hc
    · simp
    · have h1 := h.at_ c hc
      have h2 := h.lt hc
      simp [Array.getElem?_push, Nat.ne_of_lt h2, h1]

/-- A block that turns. -/
theorem Sep.turn {E w w' : World} {L : List Chunk} {b : Nat} {o o' : Obj} (h : Sep E w ((b, o) :: L)) (hos : w'.os = w.os) (ht : w'.tape = w.tape) (hout : w'.output = w.output)
    (hb : w'.heap[b]? = some o') (hne : ∀ i, i ≠ b → w'.heap[i]? = w.heap[i]?) : Sep E w' ((b, o') :: L) := by
  refine ⟨hos.trans h.os, ht.trans h.tape, hout.trans h.output, fun x => ?_, fun c hc => ?_⟩
  · have := h.uniq x
    simpa [ms, at1] using this
  · rcases List.mem_cons.1 hc with rfl | hc
    · exact hb
    · rw [hne c.1 (h.ne (o' := c.2) hc)]
      exact h.at_ c (List.mem_cons_of_mem _ hc)

/-- A whole world. -/
def whole (w : World) : List Chunk := (List.range w.heap.size).map fun b => (b, w.heap.getD b default)

theorem Sep.all (w : World) : Sep w w (whole w) := by
  refine ⟨rfl, rfl, rfl, fun b => ?_, fun c hc => ?_⟩
  · unfold whole
    have key : ∀ n, ms (at1 b) ((List.range n).map fun b => (b, w.heap.getD b default)) ≤ if b < n then 1 else 0 := by
      intro n
      induction n with
      | zero => simp [ms]
      | succ n ih =>
        rw [List.range_succ, List.map_append, ms_append]
        simp only [List.map_cons, List.map_nil, ms, at1]
        split <;> split at ih <;> split <;> omega
    have := key w.heap.size
    split at this <;> omega
  · obtain ⟨b, hb, rfl⟩ := List.mem_map.1 hc
    have hb := List.mem_range.1 hb
    simp [hb]

/-- Out of what stands at a call's end: what was there has not turned. -/
theorem Sep.below {w w' : World} {L : List Chunk} (h : Sep w w' L) (hp : Part (whole w) L) : Below w.heap.size w w' := by
  have hat : ∀ i, i < w.heap.size → w'.heap[i]? = w.heap[i]? := fun i hi => by
    have hm : (i, w.heap.getD i default) ∈ whole w := List.mem_map.2 ⟨i, List.mem_range.2 hi, rfl⟩
    have := h.at_ _ (hp.mem hm)
    rw [this]
    simp [hi]
  refine ⟨h.os, h.tape, h.output, ?_, hat⟩
  rcases Nat.eq_zero_or_pos w.heap.size with h0 | h0
  · rw [h0]; exact Nat.zero_le _
  · have := hat (w.heap.size - 1) (by omega)
    have h1 : w.heap[w.heap.size - 1]? ≠ none := by simp; omega
    rw [← this] at h1
    have h2 : w.heap.size - 1 < w'.heap.size := by
      refine Classical.byContradiction fun hn => h1 ?_
      simp; omega
    omega

/-! ### Loads and stores -/
def oneT (P : Program) (t : TypeId) : Bool := match P.underlying t with
  | some (.struct _) | some (.array _ _) | none => false
  | some _ => true

theorem run_isAgg_one {P : Program} {t : TypeId} (h : oneT P t = true) (w : World) : (isAgg t).run P w = .ok false w := by
  unfold oneT at h
  cases hu : P.underlying t with
  | none => simp [hu] at h
  | some d => cases d <;> simp [hu] at h <;> simp [isAgg, run_underlying hu]

theorem cell_of {E w : World} {L : List Chunk} (h : Sep E w L) {b : Nat} {cs : Array Value} {T : TypeId} {fr : Nat × Nat} (hc : (b, Obj.cells cs T fr) ∈ L) {o : Nat} {v : Value} (hv : cs[o]? = some v) :
    w.cell? ⟨b, o, none⟩ = some v := by
  have := h.at_ _ hc
  simp only at this
  simp [World.cell?, this, hv]

theorem Sep.load {E w : World} {L : List Chunk} (h : Sep E w L) {b : Nat} {cs : Array Value} {T : TypeId} {fr : Nat × Nat} (hc : (b, Obj.cells cs T fr) ∈ L) {o : Nat} {v : Value} (hv : cs[o]? = some v)
    {t : TypeId} (ht : oneT Pr t = true) : At Pr w (loadVar t ⟨b, o, none⟩) v := by
  unfold At loadVar
  simp [run_isAgg_one ht, cell_of h hc hv]

end Go.Proofs.Ytonjaaljnjjjcaa

/- What the operations on cells do to a heap assertion: loads, stores, boxes, slices' literals, make, append, copy. Conditions: as each lemma says. -/
set_option linter.unusedVariables false
set_option linter.unusedSimpArgs false
namespace Go.Proofs.Ytonjaaljnjjjcaa
open Go Go.RowKit

theorem addr_add (b o n : Nat) : (⟨b, o, none⟩ : Addr).add n = ⟨b, o + n, none⟩ := by
  unfold Addr.add
  split <;> simp_all

/-! ### What is read of the types -/
structure TI (t T sz bytes : Nat) (z : Value) : Prop where
  und : Pr.underlying t = some (.slice T)
  info : (Pr.info? T).map (fun i => (i.zero, i.size, i.bytes)) = some (some z, sz, bytes)
  zs : z.cells.size = sz
  pos : 0 < sz

theorem run_sizeOf_of {t n : Nat} (h : sizeOf? Pr t = some n) (w : World) : (sizeOf t).run Pr w = .ok n w := run_sizeOf? h w

/-! ### Loads of structs -/
theorem Sep.loadN {E w : World} {L : List Chunk} (h : Sep E w L) {b : Nat} {cs : Array Value} {T : TypeId} {fr : Nat × Nat} (hc : (b, Obj.cells cs T fr) ∈ L) (o : Nat) :
    ∀ (n i : Nat) (acc : Array Value), o + i + n ≤ cs.size → (loadCellsFrom ⟨b, o, none⟩ i n acc).run Pr w = .ok (acc ++ ((cs.toList.drop (o + i)).take n).toArray) w
  | 0, i, acc, _ => by simp [loadCellsFrom]
  | n + 1, i, acc, hl => by
    have hi : o + i < cs.size := by omega
    have hcell := cell_of h hc (o := o + i) (v := cs[o + i]) (by simp [hi])
    have hd : cs.toList.drop (o + i) = cs[o + i] :: cs.toList.drop (o + (i + 1)) := by
      rw [List.drop_eq_getElem_cons (by simpa using hi)]
      rfl
    rw [loadCellsFrom]
    simp only [Sem.run_bind, addr_add, run_load, hcell, Result.andThen_ok]
    rw [Sep.loadN h hc o n (i + 1) _ (by omega), hd]
    congr 1
    simp

def structT (P : Program) (t : TypeId) : Bool := match P.underlying t with
  | some (.struct _) | some (.array _ _) => true
  | _ => false

theorem run_isAgg_struct {P : Program} {t : TypeId} (h : structT P t = true) (w : World) : (isAgg t).run P w = .ok true w := by
  unfold structT at h
  cases hu : P.underlying t with
  | none => simp [hu] at h
  | some d => cases d <;> simp [hu] at h <;> simp [isAgg, run_underlying hu]

theorem Sep.loadS {E w : World} {L : List Chunk} (h : Sep E w L) {b : Nat} {cs : Array Value} {T : TypeId} {fr : Nat × Nat} (hc : (b, Obj.cells cs T fr) ∈ L) {o n : Nat} {vs : List Value}
    {t : TypeId} (ht : structT Pr t = true) (hn : sizeOf? Pr t = some n) (hv : (cs.toList.drop o).take n = vs) (hle : o + n ≤ cs.size) : At Pr w (loadVar t ⟨b, o, none⟩) (.agg vs.toArray) := by
  unfold At loadVar
  simp only [Sem.run_bind, run_isAgg_struct ht, Result.andThen_ok, if_true, loadCells, run_sizeOf_of hn]
  rw [Sep.loadN h hc o n 0 #[] hle]
  simp [hv]

/-! ### Stores -/
def spl (cs : List Value) (o : Nat) (vs : List Value) : List Value := cs.take o ++ vs ++ cs.drop (o + vs.length)

theorem Sep.setRow {E w : World} {L : List Chunk} {b : Nat} {cs : Array Value} {T : TypeId} {fr : Nat × Nat} (h : Sep E w ((b, .cells cs T fr) :: L)) (cs' : Array Value) :
    Sep E (w.setRow b cs') ((b, .cells cs' T fr) :: L) := by
  have hb : w.heap[b]? = some (.cells cs T fr) := h.at_ _ List.mem_cons_self
  exact h.turn rfl rfl rfl (setRow_heap w b cs cs' T fr hb) (fun i hi => setRow_other w b i cs' hi)

theorem Sep.store {E w : World} {L : List Chunk} {b : Nat} {cs : List Value} {T : TypeId} (h : Sep E w ((b, .cells cs.toArray T (0, 0)) :: L)) {o n : Nat} {v : Value} {t : TypeId}
    (hn : sizeOf? Pr t = some n) (hv : v.cells.size = n) (hle : o + n ≤ cs.length) (h1 : ∀ u ∈ v.cells.toList, u.oneCell' = true) :
    ∃ w', Sem.run Pr (Instr.storeAt t (.pointer (some ⟨b, o, none⟩)) v) w = .ok () w' ∧ Sep E w' ((b, .cells (spl cs o v.cells.toList).toArray T (0, 0)) :: L) := by
  refine ⟨_, ?_, h.setRow _⟩
  have hb : w.heap[b]? = some (.cells cs.toArray T (0, 0)) := h.at_ _ List.mem_cons_self
  have := run_storeCells_at Pr b o T v.cells.toList 0 cs.toArray w hb (by simpa [hv] using hle) h1
  simp only [Instr.storeAt, Instr.sureAddr, storeVar, pure_bind, Sem.run_bind, run_sizeOf_of hn, Result.andThen_ok, hv, ne_eq, not_true_eq_false, if_false]
  simpa [spl] using this

/-! ### New blocks -/
theorem Sep.newVar {E w : World} {L : List Chunk} (h : Sep E w L) {t : TypeId} {v : Value} :
    ∃ b w', Sem.run Pr (Instr.box t v) w = .ok (.pointer (some ⟨b, 0, none⟩)) w' ∧ Sep E w' ((b, .cells v.cells t (0, 0)) :: L) := by
  refine ⟨w.heap.size, _, ?_, h.push _⟩
  simp [Instr.box, Go.newVar, Go.newRow]

theorem Sep.alloc {E w : World} {L : List Chunk} (h : Sep E w L) {t : TypeId} {z : Value} (hz : (Pr.info? t).bind (·.zero) = some z) :
    ∃ b w', Sem.run Pr (Instr.alloc t true (.tuple #[])) w = .ok (.pointer (some ⟨b, 0, none⟩)) w' ∧ Sep E w' ((b, .cells z.cells t (0, 0)) :: L) := by
  refine ⟨w.heap.size, _, ?_, h.push _⟩
  cases hi : Pr.info? t with
  | none => simp [hi] at hz
  | some i =>
    simp [hi] at hz
    simp [Instr.alloc, zeroValue, typeInfo, hi, hz, Go.newVar, Go.newRow]

/-- What a slice's literal holds. -/
def bsV (P : Program) (t len : Nat) (parts : List (Nat × Value)) : Option (List Value) :=
  match P.underlying t with
  | some (.slice e) => match sizeOf? P e, (P.info? e).bind (·.zero) with
    | some n, some z => match Nat.ble (len * n) 16777216 with
      | true => fillL (fun i => some (i * n, n)) ((List.range (len * n)).map fun i => z.cells[i % z.cells.size]!) parts
      | false => none
    | _, _ => none
  | _ => none

theorem Sep.buildSlice {E w : World} {L : List Chunk} (h : Sep E w L) {t T len : Nat} {parts : List (Nat × Value)} {vs : List Value} (hu : Pr.underlying t = some (.slice T)) (hv : bsV Pr t len parts = some vs) :
    ∃ b w', Sem.run Pr (Instr.buildSlice t len parts.toArray) w = .ok (.slice (some ⟨b, 0, none⟩) len len) w' ∧ Sep E w' ((b, .cells vs.toArray T (0, 0)) :: L) := by
  refine ⟨w.heap.size, _, ?_, h.push _⟩
  unfold bsV at hv
  simp only [hu] at hv
  cases hn : sizeOf? Pr T with
  | none => simp [hn] at hv
  | some n =>
    cases hz : (Pr.info? T).bind (·.zero) with
    | none => simp [hn, hz] at hv
    | some z =>
      simp only [hn, hz] at hv
      cases hb : Nat.ble (len * n) 16777216 with
      | false => simp [hb] at hv
      | true =>
        simp only [hb] at hv
        have hb := Nat.le_of_ble_eq_true hb
        have hf := fillL_sound _ _ _ hv
        cases hi : Pr.info? T with
        | none => simp [hi] at hz
        | some i =>
          have hz' : i.zero = some z := by simpa [hi] using hz
          have hzero : (Array.range (len * n)).map (fun k => z.cells[k % z.cells.size]!) = (((List.range (len * n)).map fun k => z.cells[k % z.cells.size]!)).toArray := by
            apply Array.ext'
            simp
          have hrz : (zeroValue T).run Pr w = .ok z w := by simp [zeroValue, typeInfo, hi, hz']
          simp only [Instr.buildSlice, Sem.run_bind, run_underlying hu, Result.andThen_ok, run_sizeOf_of hn]
          rw [if_neg (by omega)]
          by_cases h0 : len * n = 0
          · have hf0 : Instr.fill (fun i => some (i * n, n)) #[] parts = some vs.toArray := by simpa [h0] using hf
            simp [h0, show Array.range 0 = #[] from rfl, hf0, newRow]
          · simp only [h0, if_false, Sem.run_bind, Sem.run_pure, hrz, Result.andThen_ok]
            have hf' : Instr.fill (fun i => some (i * n, n)) ((Array.range (len * n)).map (fun k => z.cells[k % z.cells.size]!)) parts = some vs.toArray := by rw [hzero]; exact hf
            simp [hf', newRow]

/-- The zeros of n elements. -/
def zerosL (z : Value) (n : Nat) : List Value := (List.range n).map fun i => z.cells[i % z.cells.size]!

theorem Sep.makeSlice {E w : World} {L : List Chunk} (h : Sep E w L) {t T sz bytes : Nat} {z : Value} (ti : TI t T sz bytes z) {n : Nat} (hb : bytes * n ≤ 281474976710656) (hn : n ≤ 9223372036854775807) :
    ∃ b w', Sem.run Pr (Instr.makeSlice t (.int .i64 (n : Int)) (.int .i64 (n : Int))) w = .ok (.slice (some ⟨b, 0, none⟩) n n) w' ∧ Sep E w' ((b, .cells (zerosL z (n * sz)).toArray T (0, 0)) :: L) := by
  obtain ⟨i, hi, hz, hsz, hby⟩ := info_parts ti.info
  refine ⟨w.heap.size, _, ?_, h.push _⟩
  have hw : IntKind.i64.wrap (n : Int) = (n : Int) := by rw [IntKind.wrap_i64]; omega
  have hbi : ¬ ((bytes : Int) * (n : Int) > 2 ^ 48) := by
    have h : ((bytes * n : Nat) : Int) ≤ 281474976710656 := by omega
    rw [Int.natCast_mul] at h
    have e : (2 : Int) ^ 48 = 281474976710656 := by decide
    rw [e]
    omega
  have hn0 : ¬ ((n : Int) < 0) := by omega
  have hrz : (zeroValue T).run Pr w = .ok z w := by simp [zeroValue, typeInfo, hi, hz]
  have hzero : (Array.range (n * sz)).map (fun k => z.cells[k % z.cells.size]!) = (zerosL z (n * sz)).toArray := by
    apply Array.ext'
    simp [zerosL]
  simp only [Instr.makeSlice, Sem.run_bind, run_underlying ti.und, Result.andThen_ok, asInt, asIntOf, Sem.run_pure, typeInfo, run_program, hi, hw, hby, hn0, hbi, decide_false, Bool.or_self, if_false, Int.lt_irrefl, gt_iff_lt, Bool.false_eq_true, run_askRoom, sizeOf, hsz, Int.toNat_natCast]
  by_cases h0 : n * sz = 0
  · simp [h0, show Array.range 0 = #[] from rfl, newRow, zerosL]
  · simp only [h0, if_false, Sem.run_bind, hrz, Result.andThen_ok, Sem.run_pure, hzero]
    simp [newRow]

/-! ### Slices of the call's own -/
structure Own (T sz : Nat) (s : SV) (vs : List Value) (L : List Chunk) : Prop where
  len : vs.length = s.len * sz
  form : (s.a = none ∧ s.len = 0 ∧ s.cap = 0 ∧ L = []) ∨ ∃ g cur, s.a = some ⟨g, 0, none⟩ ∧ L = [(g, .cells cur T (0, 0))] ∧ s.len ≤ s.cap ∧ s.cap ≤ maxLen ∧ cur.size = s.cap * sz ∧ cur.toList.take (s.len * sz) = vs

def SV.nil : SV := ⟨none, 0, 0⟩

theorem Own.nil (T sz : Nat) : Own T sz SV.nil [] [] := ⟨by simp [SV.nil], .inl ⟨rfl, rfl, rfl, rfl⟩⟩

theorem Own.new {T sz : Nat} {g n : Nat} {vs : List Value} (hl : vs.length = n * sz) (hn : n ≤ maxLen) : Own T sz ⟨some ⟨g, 0, none⟩, n, n⟩ vs [(g, .cells vs.toArray T (0, 0))] :=
  ⟨hl, .inr ⟨g, vs.toArray, rfl, rfl, Nat.le_refl _, hn, by simpa using hl, by simp only [← hl]; exact List.take_length⟩⟩

/-- What a slice reads in w. -/
structure Src (w : World) (sz : Nat) (s : SV) (xs : List Value) : Prop where
  len : xs.length = s.len * sz
  nil : s.a = none → s.len = 0
  at_ : ∀ a, s.a = some a → ∀ j u, xs[j]? = some u → w.cell? (a.add j) = some u

/-- What a slice reads out of blocks that stay as they are. -/
structure RdS (I : List Chunk) (sz : Nat) (s : SV) (xs : List Value) : Prop where
  len : xs.length = s.len * sz
  cap : s.len ≤ s.cap
  nil : s.a = none → s.len = 0
  at_ : ∀ a, s.a = some a → s.len = 0 ∨ (a.spot = none ∧ ∃ cs T fr, (a.block, Obj.cells cs T fr) ∈ I ∧ ∀ j u, xs[j]? = some u → cs[a.off + j]? = some u)

theorem RdS.mono {I I' : List Chunk} {sz : Nat} {s : SV} {xs : List Value} (h : RdS I sz s xs) (hI : ∀ c ∈ I, c ∈ I') : RdS I' sz s xs :=
  ⟨h.len, h.cap, h.nil, fun a ha => by
    refine (h.at_ a ha).imp id ?_
    rintro ⟨h1, cs, T, fr, hc, hv⟩
    exact ⟨h1, cs, T, fr, hI _ hc, hv⟩⟩

theorem RdS.src {I L : List Chunk} {E w : World} {sz : Nat} {s : SV} {xs : List Value} (h : RdS I sz s xs) (hS : Sep E w L) (hI : ∀ c ∈ I, c ∈ L) : Src w sz s xs :=
  ⟨h.len, h.nil, fun a ha j u hu => by
    rcases h.at_ a ha with h0 | ⟨h1, cs, T, fr, hc, hv⟩
    · have : xs = [] := List.eq_nil_of_length_eq_zero (by rw [h.len, h0, Nat.zero_mul])
      subst this
      cases hu
    · obtain ⟨b, o, sp⟩ := a
      simp only at h1
      subst h1
      rw [addr_add]
      exact cell_of hS (hI _ hc) (hv j u hu)⟩

theorem Own.rds {T sz : Nat} {s : SV} {vs : List Value} {L : List Chunk} (h : Own T sz s vs L) : RdS L sz s vs := by
  rcases h.form with ⟨h1, h2, h3, rfl⟩ | ⟨g, cur, h1, rfl, h2, h3, h4, h5⟩
  · exact ⟨h.len, by omega, fun _ => h2, fun a ha => by rw [h1] at ha; cases ha⟩
  · refine ⟨h.len, h2, fun ha => (by rw [h1] at ha; cases ha), fun a ha => ?_⟩
    rw [h1] at ha
    injection ha with ha
    subst ha
    refine .inr ⟨rfl, cur, T, (0, 0), List.mem_cons_self, fun j u hu => ?_⟩
    rw [← h5, List.getElem?_take] at hu
    split at hu
    · simpa using hu
    · cases hu

theorem Own.owns {T sz : Nat} {s : SV} {vs : List Value} {L F : List Chunk} {E w : World} (h : Own T sz s vs L) (hS : Sep E w (L ++ F)) : w.ownsRow 0 T sz (.slice s.a s.len s.cap) s.len vs := by
  refine ⟨h.len, ?_⟩
  rcases h.form with ⟨h1, h2, h3, rfl⟩ | ⟨g, cur, h1, rfl, h2, h3, h4, h5⟩
  · exact .inl ⟨by rw [h1, h2, h3], h2⟩
  · exact .inr ⟨g, s.cap, cur, by rw [h1], Nat.zero_le _, hS.at_ (g, .cells cur T (0, 0)) (by simp), h2, h3, h4, h5⟩

theorem Own.of_owns {T sz : Nat} {v : Value} {n : Nat} {vs : List Value} {w : World} (h : w.ownsRow 0 T sz v n vs) :
    ∃ (s : SV) (L : List Chunk), v = .slice s.a s.len s.cap ∧ s.len = n ∧ Own T sz s vs L ∧ ((v.ownBlock = none ∧ L = []) ∨ ∃ g o, v.ownBlock = some g ∧ L = [(g, o)] ∧ w.heap[g]? = some o) := by
  rcases h.2 with ⟨rfl, rfl⟩ | ⟨g, cap, cur, rfl, _, h1, h2, h3, h4, h5⟩
  · exact ⟨SV.nil, [], rfl, rfl, ⟨by simpa [SV.nil] using h.1, .inl ⟨rfl, rfl, rfl, rfl⟩⟩, .inl ⟨rfl, rfl⟩⟩
  · exact ⟨⟨some ⟨g, 0, none⟩, n, cap⟩, _, rfl, rfl, ⟨h.1, .inr ⟨g, cur, rfl, rfl, h2, h3, h4, h5⟩⟩, .inr ⟨g, _, rfl, rfl, h1⟩⟩

theorem run_append_src {w : World} {t ty T sz bytes : Nat} {z : Value} (ti : TI t T sz bytes z) {v : Value} {n : Nat} {vs xs : List Value} {x : SV} (hown : w.ownsRow 0 T sz v n vs) (hx : Src w sz x xs) (h1 : ∀ u ∈ xs, u.oneCell' = true)
    (hb : (n + x.len) * bytes ≤ 140737488355328) (hm : n + x.len ≤ maxLen) :
    ∃ v' w', (Builtin.append_ #[t, t] ty #[v, .slice x.a x.len x.cap]).run Pr w = .ok v' w' ∧ w'.ownsRow 0 T sz v' (n + x.len) (vs ++ xs) ∧ w.grownBy w' v.ownBlock ∧ (v'.ownBlock = v.ownBlock ∨ v'.ownBlock = some w.heap.size) := by
  obtain ⟨i, hi, hz, hsz, hby⟩ := info_parts ti.info
  obtain ⟨xa, xl, xc⟩ := x
  cases xa with
  | some a =>
    obtain ⟨v', w', hr, h2, h3, _, h4⟩ := run_append_own_at (P := Pr) w 0 t ty T i z sz bytes ti.und hi hz hsz hby ti.zs ti.pos v n vs hown a xl xc xs hx.len (hx.at_ a rfl) h1 hm hb (Nat.zero_le _)
    exact ⟨v', w', hr, h2, h3, h4⟩
  | none =>
    have hl : xl = 0 := hx.nil rfl
    subst hl
    have hxs : xs = [] := List.eq_nil_of_length_eq_zero (by simpa using hx.len)
    subst hxs
    refine ⟨v, w, ?_, by simpa using hown, ⟨rfl, rfl, rfl, Nat.le_refl _, fun _ _ _ => rfl⟩, .inl rfl⟩
    rcases hown.2 with ⟨rfl, rfl⟩ | ⟨g, cap, cur, rfl, _, _, hnc, _⟩
    · simp [Builtin.append_, run_underlying ti.und, sizeOf, typeInfo, hi, Builtin.lenOf, Builtin.firstCells]
    · simp [Builtin.append_, run_underlying ti.und, sizeOf, typeInfo, hi, Builtin.lenOf, Builtin.firstCells, hnc, storeCells]

/-- append, on a slice of the call's own. -/
theorem Sep.append {E w : World} {L F : List Chunk} {t ty T sz bytes : Nat} {z : Value} (ti : TI t T sz bytes z) {s x : SV} {vs xs : List Value} (hS : Sep E w (L ++ F)) (ho : Own T sz s vs L) (hx : Src w sz x xs)
    (h1 : ∀ u ∈ xs, u.oneCell' = true) (hb : (s.len + x.len) * bytes ≤ 140737488355328) (hm : s.len + x.len ≤ maxLen) :
    ∃ s' w' L', Sem.run Pr (Builtin.append_ #[t, t] ty #[.slice s.a s.len s.cap, .slice x.a x.len x.cap]) w = .ok (.slice s'.a s'.len s'.cap) w' ∧ Own T sz s' (vs ++ xs) L' ∧ s'.len = s.len + x.len ∧ Sep E w' (L' ++ F) := by
  have hown := ho.owns hS
  obtain ⟨v', w', hr, h2, h3, h4⟩ := run_append_src (ty := ty) ti hown hx h1 hb hm
  obtain ⟨s', L', rfl, hl, ho', hL⟩ := Own.of_owns h2
  refine ⟨s', w', L', hr, ho', hl, ?_⟩
  -- what stands in F is not the slice's own block
  have hF : ∀ c ∈ F, w'.heap[c.1]? = some c.2 := fun c hc => by
    have hcw := hS.at_ c (List.mem_append_right _ hc)
    rw [h3.block c.1 (hS.lt (List.mem_append_right _ hc)) ?_]
    · exact hcw
    · intro e
      rcases ho.form with ⟨g1, _, _, _⟩ | ⟨g, cur, g1, rfl, _⟩
      · rw [g1] at e; cases e
      · rw [g1] at e
        simp only [Value.ownBlock, Option.some.injEq] at e
        exact Sep.ne (L := F) hS (b' := c.1) (o' := c.2) hc e
  have hSF : Sep E w' F := ⟨h3.os.trans hS.os, h3.tape.trans hS.tape, h3.output.trans hS.output, fun b => Nat.le_trans (by rw [ms_append]; omega) (hS.uniq b), hF⟩
  rcases hL with ⟨_, rfl⟩ | ⟨g, o, hg, rfl, hgo⟩
  · exact hSF
  · refine ⟨hSF.os, hSF.tape, hSF.output, fun b => ?_, fun c hc => ?_⟩
    · show ms (at1 b) ((g, o) :: F) ≤ 1
      by_cases hb : g = b
      · have : ms (at1 b) F = 0 := ms_zero fun c hc => by
          have hne : c.1 ≠ g := by
            rcases h4 with h4 | h4
            · rw [hg] at h4
              rcases ho.form with ⟨g1, _, _, _⟩ | ⟨g', cur, g1, rfl, _⟩
              · rw [g1] at h4; cases h4
              · rw [g1] at h4
                simp only [Value.ownBlock, Option.some.injEq] at h4
                subst h4
                exact Sep.ne (L := F) hS (b' := c.1) (o' := c.2) hc
            · rw [hg] at h4
              injection h4 with h4
              have := hS.lt (List.mem_append_right _ hc)
              omega
          simp [at1]; omega
        simp [ms, at1, hb] at this ⊢
        omega
      · have := hSF.uniq b
        simpa [ms, at1, hb] using this
    · rcases List.mem_cons.1 hc with rfl | hc
      · exact hgo
      · exact hF c hc

end Go.Proofs.Ytonjaaljnjjjcaa

/- Maps and iterators in a heap assertion; bytes and strings. Conditions: as each lemma says. -/
set_option linter.unusedVariables false
set_option linter.unusedSimpArgs false
namespace Go.Proofs.Ytonjaaljnjjjcaa
open Go Go.RowKit

/-- An entry: its key, its value, when it was born. -/
structure Ent (K : Type) where
  k : K
  v : Value
  born : Nat

def Ent.me {K : Type} (kv : K → Value) (x : Ent K) : MapEntry := ⟨kv x.k, x.v, x.born⟩

section
variable {K : Type} [DecidableEq K]

/-- The first of a key, and where it stands. -/
def lookE (k : K) : List (Ent K) → Nat → Option (Nat × Value)
  | [], _ => none
  | x :: l, i => if x.k = k then some (i, x.v) else lookE k l (i + 1)

/-- A key's value. -/
def getE (k : K) : List (Ent K) → Option Value
  | [] => none
  | x :: l => if x.k = k then some x.v else getE k l

def setE (k : K) (v : Value) (c : Nat) : List (Ent K) → List (Ent K)
  | [] => [⟨k, v, c⟩]
  | x :: l => if x.k = k then ⟨k, v, x.born⟩ :: l else x :: setE k v c l

def delE (k : K) : List (Ent K) → List (Ent K)
  | [] => []
  | x :: l => if x.k = k then l else x :: delE k l

theorem lookE_get (k : K) : ∀ (l : List (Ent K)) (i : Nat), (lookE k l i).map (·.2) = getE k l
  | [], _ => rfl
  | x :: l, i => by
    unfold lookE getE
    split
    · rfl
    · exact lookE_get k l (i + 1)

theorem lookE_shift (k : K) : ∀ (l : List (Ent K)) (i : Nat), lookE k l (i + 1) = (lookE k l i).map fun x => (x.1 + 1, x.2)
  | [], _ => rfl
  | x :: l, i => by
    unfold lookE
    split
    · rfl
    · exact lookE_shift k l (i + 1)

/-- How keys are told apart in w: the first of a key is found. -/
def KeyOk (P : Program) (kt : TypeId) (kv : K → Value) (w : World) (l : List (Ent K)) (k : K) : Prop :=
  (Instr.findKey kt (kv k) (l.map (Ent.me kv))).run P w = .ok (lookE k l 0) w ∧ (∀ e, (Instr.checkKey e 10000 kt (kv k)).run P w = .ok () w) ∧ Instr.sameBits 10000 (kv k) (kv k) = true

theorem modify_set {kv : K → Value} {k : K} {v : Value} {c : Nat} : ∀ (l : List (Ent K)) (i : Nat) (u : Value), lookE k l 0 = some (i, u) →
    (((l.map (Ent.me kv)).toArray).modify i fun e => { e with key := kv k, val := v }) = ((setE k v c l).map (Ent.me kv)).toArray
  | [], _, _, h => by simp [lookE] at h
  | x :: l, i, u, h => by
    unfold lookE at h
    unfold setE
    split at h
    · rename_i hx
      simp only [Option.some.injEq, Prod.mk.injEq] at h
      obtain ⟨rfl, _⟩ := h
      rw [if_pos hx]
      apply Array.ext'
      simp [Ent.me]
    · rename_i hx
      rw [if_neg hx, lookE_shift] at *
      obtain ⟨⟨j, u'⟩, hj, he⟩ := Option.map_eq_some_iff.1 h
      simp only [Prod.mk.injEq] at he
      obtain ⟨rfl, rfl⟩ := he
      have := modify_set (kv := kv) (v := v) (c := c) l j u' hj
      have h2 := congrArg Array.toList this
      apply Array.ext'
      simp at h2 ⊢
      exact h2

theorem key_at {kv : K → Value} {k : K} : ∀ (l : List (Ent K)) (i : Nat) (u : Value), lookE k l 0 = some (i, u) → (((l.map (Ent.me kv)).toArray[i]?).map (·.key)).getD (kv k) = kv k
  | [], _, _, h => by simp [lookE] at h
  | x :: l, i, u, h => by
    unfold lookE at h
    split at h
    · rename_i hx
      simp only [Option.some.injEq, Prod.mk.injEq] at h
      obtain ⟨rfl, _⟩ := h
      simp [Ent.me, hx]
    · rename_i hx
      rw [lookE_shift] at h
      obtain ⟨⟨j, u'⟩, hj, he⟩ := Option.map_eq_some_iff.1 h
      simp only [Prod.mk.injEq] at he
      obtain ⟨rfl, rfl⟩ := he
      have := key_at (kv := kv) l j u' hj
      simpa using this

theorem push_set {kv : K → Value} {k : K} {v : Value} {c : Nat} : ∀ (l : List (Ent K)), lookE k l 0 = none → ((l.map (Ent.me kv)).toArray.push { key := kv k, val := v, born := c }) = ((setE k v c l).map (Ent.me kv)).toArray
  | [], _ => rfl
  | x :: l, h => by
    unfold lookE at h
    unfold setE
    split at h
    · cases h
    · rename_i hx
      rw [if_neg hx]
      rw [lookE_shift] at h
      have := push_set (kv := kv) (v := v) (c := c) l (by simpa using h)
      have h2 := congrArg Array.toList this
      apply Array.ext'
      simp at h2 ⊢
      exact h2

theorem erase_del {kv : K → Value} {k : K} : ∀ (l : List (Ent K)) (i : Nat) (u : Value), lookE k l 0 = some (i, u) → ((l.map (Ent.me kv)).toArray.eraseIdxIfInBounds i) = ((delE k l).map (Ent.me kv)).toArray
  | [], _, _, h => by simp [lookE] at h
  | x :: l, i, u, h => by
    unfold lookE at h
    unfold delE
    split at h
    · rename_i hx
      simp only [Option.some.injEq, Prod.mk.injEq] at h
      obtain ⟨rfl, _⟩ := h
      rw [if_pos hx]
      apply Array.ext'
      simp
    · rename_i hx
      rw [if_neg hx]
      rw [lookE_shift] at h
      obtain ⟨⟨j, u'⟩, hj, he⟩ := Option.map_eq_some_iff.1 h
      simp only [Prod.mk.injEq] at he
      obtain ⟨rfl, rfl⟩ := he
      have := erase_del (kv := kv) l j u' hj
      have h2 := congrArg Array.toList this
      apply Array.ext'
      simp at h2 ⊢
      exact h2

theorem del_none {k : K} : ∀ (l : List (Ent K)), lookE k l 0 = none → delE k l = l
  | [], _ => rfl
  | x :: l, h => by
    unfold lookE at h
    unfold delE
    split at h
    · cases h
    · rename_i hx
      rw [if_neg hx]
      rw [lookE_shift] at h
      rw [del_none l (by simpa using h)]

/-- A map's block. -/
def mapC (kv : K → Value) (m : Nat) (l : List (Ent K)) (c : Nat) : Chunk := (m, .map (l.map (Ent.me kv)).toArray c)

variable {kv : K → Value} {E w : World} {L : List Chunk} {m c : Nat} {l : List (Ent K)} {mt kt et : TypeId} {k : K}

theorem run_getObj_map {es : Array MapEntry} (h : w.heap[m]? = some (.map es c)) : (getObj m).run Pr w = .ok (.map es c) w := by
  simp [getObj, Sem.run, h]

theorem Sep.lookup (hS : Sep E w L) (hm : mapC kv m l c ∈ L) (hu : Pr.underlying mt = some (.map kt et)) {z : Value} (hz : (Pr.info? et).bind (·.zero) = some z) (hk : KeyOk Pr kt kv w l k) :
    At Pr w (Instr.lookup mt (.map (some m)) (kv k) false) ((getE k l).getD z) := by
  have hb : w.heap[m]? = some (.map (l.map (Ent.me kv)).toArray c) := hS.at_ _ hm
  obtain ⟨h1, h2, _⟩ := hk
  have hzr : (zeroValue et).run Pr w = .ok z w := by
    cases hi : Pr.info? et with
    | none => simp [hi] at hz
    | some i =>
      have hz' : i.zero = some z := by simpa [hi] using hz
      simp [zeroValue, typeInfo, hi, hz']
  have hg := lookE_get k l 0
  unfold At Instr.lookup
  simp only [Sem.run_bind, run_underlying hu, Result.andThen_ok, run_getObj_map hb, Sem.run_pure, h2]
  have h1' : Sem.run Pr (Instr.findKey kt (kv k) (l.map (Ent.me kv)).toArray.toList) w = .ok (lookE k l 0) w := h1
  rw [h1']
  cases hl : lookE k l 0 with
  | none =>
    rw [hl] at hg
    have hg' : getE k l = none := by simpa using hg.symm
    simp [hzr, hg']
  | some x =>
    rw [hl] at hg
    have hg' : getE k l = some x.2 := by simpa using hg.symm
    simp [hg']

theorem Sep.lookup_ok (hS : Sep E w L) (hm : mapC kv m l c ∈ L) (hu : Pr.underlying mt = some (.map kt et)) {z : Value} (hz : (Pr.info? et).bind (·.zero) = some z) (hk : KeyOk Pr kt kv w l k) :
    At Pr w (Instr.lookup mt (.map (some m)) (kv k) true) (.tuple #[(getE k l).getD z, .bool (getE k l).isSome]) := by
  have hb : w.heap[m]? = some (.map (l.map (Ent.me kv)).toArray c) := hS.at_ _ hm
  obtain ⟨h1, h2, _⟩ := hk
  have hzr : (zeroValue et).run Pr w = .ok z w := by
    cases hi : Pr.info? et with
    | none => simp [hi] at hz
    | some i =>
      have hz' : i.zero = some z := by simpa [hi] using hz
      simp [zeroValue, typeInfo, hi, hz']
  have hg := lookE_get k l 0
  unfold At Instr.lookup
  simp only [Sem.run_bind, run_underlying hu, Result.andThen_ok, run_getObj_map hb, Sem.run_pure, h2]
  have h1' : Sem.run Pr (Instr.findKey kt (kv k) (l.map (Ent.me kv)).toArray.toList) w = .ok (lookE k l 0) w := h1
  rw [h1']
  cases hl : lookE k l 0 with
  | none =>
    rw [hl] at hg
    have hg' : getE k l = none := by simpa using hg.symm
    simp [hzr, hg']
  | some x =>
    rw [hl] at hg
    have hg' : getE k l = some x.2 := by simpa using hg.symm
    simp [hg']

theorem run_setObj_map {es : Array MapEntry} (h : w.heap[m]? = some (.map es c)) (o : Obj) : (setObj m o).run Pr w = .ok () { w with heap := w.heap.setIfInBounds m o } := by
  simp [setObj, Sem.run, h]

theorem Sep.setObj {o o' : Obj} (hS : Sep E w ((m, o) :: L)) : Sep E { w with heap := w.heap.setIfInBounds m o' } ((m, o') :: L) := by
  have hb := hS.at_ (m, o) List.mem_cons_self
  have hlt := (Array.getElem?_eq_some_iff.1 hb).1
  exact hS.turn rfl rfl rfl (by simp at hlt; simp [hlt]) (fun i hi => by simp [Array.getElem?_setIfInBounds_ne (Ne.symm hi)])

theorem Sep.mapUpdate (hS : Sep E w (mapC kv m l c :: L)) (hu : Pr.underlying mt = some (.map kt et)) (v : Value) (hk : KeyOk Pr kt kv w l k) :
    ∃ w', Sem.run Pr (Instr.mapUpdate mt (.map (some m)) (kv k) v) w = .ok () w' ∧ Sep E w' (mapC kv m (setE k v c l) (if (getE k l).isSome then c else c + 1) :: L) := by
  have hb : w.heap[m]? = some (.map (l.map (Ent.me kv)).toArray c) := hS.at_ _ List.mem_cons_self
  obtain ⟨h1, h2, h3⟩ := hk
  have hg := lookE_get k l 0
  have h1' : Sem.run Pr (Instr.findKey kt (kv k) (l.map (Ent.me kv)).toArray.toList) w = .ok (lookE k l 0) w := h1
  cases hl : lookE k l 0 with
  | none =>
    rw [hl] at hg
    have hg' : getE k l = none := by simpa using hg.symm
    refine ⟨_, ?_, by rw [hg']; exact hS.setObj⟩
    unfold Instr.mapUpdate
    simp only [Sem.run_bind, run_underlying hu, Result.andThen_ok, run_getObj_map hb, h2, h1', hl]
    rw [push_set l hl]
    exact run_setObj_map hb _
  | some x =>
    rw [hl] at hg
    have hg' : getE k l = some x.2 := by simpa using hg.symm
    obtain ⟨i, u⟩ := x
    refine ⟨_, ?_, by rw [hg']; exact hS.setObj⟩
    unfold Instr.mapUpdate
    simp only [Sem.run_bind, run_underlying hu, Result.andThen_ok, run_getObj_map hb, h2, h1', hl]
    have hst : Sem.run Pr (Instr.keyThatStays ((((l.map (Ent.me kv)).toArray[i]?).map (·.key)).getD (kv k)) (kv k)) w = .ok (kv k) w := by
      rw [key_at l i u hl]
      simp [Instr.keyThatStays, h3]
    simp only [hst, Result.andThen_ok]
    rw [modify_set (c := c) l i u hl]
    exact run_setObj_map hb _

theorem Sep.delete (hS : Sep E w (mapC kv m l c :: L)) (hu : Pr.underlying mt = some (.map kt et)) (hk : KeyOk Pr kt kv w l k) {kt' ty : TypeId} :
    ∃ w', Sem.run Pr (Builtin.delete_ #[mt, kt'] ty #[.map (some m), kv k]) w = .ok (.tuple #[]) w' ∧ Sep E w' (mapC kv m (delE k l) c :: L) := by
  have hb : w.heap[m]? = some (.map (l.map (Ent.me kv)).toArray c) := hS.at_ _ List.mem_cons_self
  obtain ⟨h1, h2, h3⟩ := hk
  have h1' : Sem.run Pr (Instr.findKey kt (kv k) (l.map (Ent.me kv)).toArray.toList) w = .ok (lookE k l 0) w := h1
  cases hl : lookE k l 0 with
  | none =>
    refine ⟨_, ?_, by rw [del_none l hl]; exact hS.setObj⟩
    have := run_setObj_map hb (.map (l.map (Ent.me kv)).toArray c)
    simp only [Builtin.delete_, List.getElem?_toArray, List.getElem?_cons_zero, List.getElem?_cons_succ, pure_bind, Sem.run_bind, run_underlying hu, Result.andThen_ok, run_getObj_map hb, h2, h1', hl, this, Sem.run_pure]
  | some x =>
    obtain ⟨i, u⟩ := x
    refine ⟨_, ?_, hS.setObj⟩
    have := run_setObj_map hb (.map ((delE k l).map (Ent.me kv)).toArray c)
    simp only [Builtin.delete_, List.getElem?_toArray, List.getElem?_cons_zero, List.getElem?_cons_succ, pure_bind, Sem.run_bind, run_underlying hu, Result.andThen_ok, run_getObj_map hb, h2, h1', hl, erase_del l i u hl, this, Sem.run_pure]

end

section
variable {K : Type} {kv : K → Value} {E w : World} {L : List Chunk} {m c : Nat} {l : List (Ent K)} {mt kt et : TypeId}

theorem Sep.makeMap (hS : Sep E w L) (mt : TypeId) : ∃ m w', Sem.run Pr (Instr.makeMap mt none) w = .ok (.map (some m)) w' ∧ Sep E w' (mapC kv m [] 0 :: L) := by
  refine ⟨w.heap.size, _, ?_, hS.push _⟩
  simp [Instr.makeMap]

theorem Sep.mapLen (hS : Sep E w L) (hm : mapC kv m l c ∈ L) (hu : Pr.underlying mt = some (.map kt et)) {ty : TypeId} : At Pr w (Builtin.len_ #[mt] ty #[.map (some m)]) (.int .i64 l.length) := by
  have hb : w.heap[m]? = some (.map (l.map (Ent.me kv)).toArray c) := hS.at_ _ hm
  unfold At
  simp only [Builtin.len_, List.getElem?_toArray, List.getElem?_cons_zero, pure_bind, Sem.run_bind, run_underlying hu, Result.andThen_ok, run_getObj_map hb, Sem.run_pure, goInt]
  simp

end
end Go.Proofs.Ytonjaaljnjjjcaa

/- Ranging over maps in a heap assertion. Conditions: as each lemma says. -/
set_option linter.unusedVariables false
set_option linter.unusedSimpArgs false
namespace Go.Proofs.Ytonjaaljnjjjcaa
open Go Go.RowKit

section
variable {K : Type} {kv : K → Value}

theorem filter_left (seen : List Nat) : ∀ (l : List (Ent K)), ((l.map (Ent.me kv)).filter fun e => !seen.toArray.contains e.born) = (l.filter fun e => !seen.contains e.born).map (Ent.me kv)
  | [] => rfl
  | x :: l => by
    have h0 : seen.toArray.contains (Ent.me kv x).born = seen.contains x.born := by simp [Ent.me]
    rw [List.map_cons, List.filter_cons, List.filter_cons, h0, filter_left seen l]
    cases seen.contains x.born <;> rfl

theorem filter_old (c : Nat) : ∀ (l : List (Ent K)), (∀ e ∈ l, e.born < c) → ((l.map (Ent.me kv)).filter fun e => decide (e.born < c)) = l.map (Ent.me kv)
  | [], _ => rfl
  | x :: l, h => by
    have h0 : decide ((Ent.me kv x).born < c) = true := decide_eq_true (h x List.mem_cons_self)
    rw [List.map_cons, List.filter_cons, h0, filter_old c l fun e he => h e (List.mem_cons_of_mem _ he)]
    rfl

theorem filter_new (c : Nat) : ∀ (l : List (Ent K)), (∀ e ∈ l, e.born < c) → ((l.map (Ent.me kv)).filter fun e => decide (e.born ≥ c)) = []
  | [], _ => rfl
  | x :: l, h => by
    have h0 : decide ((Ent.me kv x).born ≥ c) = false := decide_eq_false (Nat.not_le.2 (h x List.mem_cons_self))
    rw [List.map_cons, List.filter_cons, h0, filter_new c l fun e he => h e (List.mem_cons_of_mem _ he)]
    rfl

theorem arr_filter {α : Type} (l : List α) (p : α → Bool) : l.toArray.filter p = (l.filter p).toArray := by
  apply Array.ext'
  simp

theorem find_born : ∀ (l : List (Ent K)) (e : Ent K), e ∈ l → (l.map (·.born)).Nodup → ((l.map (Ent.me kv)).find? fun x => x.born == e.born) = some (Ent.me kv e)
  | [], _, h, _ => by cases h
  | x :: l, e, h, hn => by
    rw [List.map_cons, List.nodup_cons] at hn
    rw [List.map_cons, List.find?_cons]
    rcases List.mem_cons.1 h with rfl | h
    · simp [Ent.me]
    · have hne : ((Ent.me kv x).born == e.born) = false := by
        simp only [Ent.me, beq_eq_false_iff_ne]
        intro he
        exact hn.1 (he ▸ List.mem_map.2 ⟨e, h, rfl⟩)
      rw [hne]
      exact find_born l e h hn.2

end

section
variable {K : Type}
variable {kv : K → Value} {E w : World} {L : List Chunk} {m c : Nat} {l : List (Ent K)} {mt kt et : TypeId} {k : K}

def iterC (it m since : Nat) (seen : List Nat) : Chunk := (it, .mapIter (some m) since seen.toArray since)

theorem Sep.range (hS : Sep E w L) (hm : mapC kv m l c ∈ L) (hu : Pr.underlying mt = some (.map kt et)) :
    ∃ it w', Sem.run Pr (Instr.range mt (.map (some m))) w = .ok (.pointer (some ⟨it, 0, none⟩)) w' ∧ Sep E w' (iterC it m c [] :: L) := by
  have hb : w.heap[m]? = some (.map (l.map (Ent.me kv)).toArray c) := hS.at_ _ hm
  refine ⟨w.heap.size, _, ?_, hS.push _⟩
  simp only [Instr.range, Sem.run_bind, run_underlying hu, Result.andThen_ok, run_getObj_map hb, Sem.run_pure, run_newObj]

/-- What a step of a range does, where nothing is stored between. -/
theorem run_next {it : Nat} {seen : List Nat} (hi : w.heap[it]? = some (.mapIter (some m) c seen.toArray c)) (hb : w.heap[m]? = some (.map (l.map (Ent.me kv)).toArray c)) (hborn : ∀ e ∈ l, e.born < c) (ty : TypeId) :
    ((∀ e ∈ l, e.born ∈ seen) ∧ (Instr.next (.pointer (some ⟨it, 0, none⟩)) false ty).run Pr w = .ok (.tuple #[.bool false]) w) ∨
    ∃ e ∈ l, e.born ∉ seen ∧ ∃ w1 : World, w1.heap = w.heap ∧ w1.os = w.os ∧ w1.tape = w.tape ∧ w1.output = w.output ∧
      (Instr.next (.pointer (some ⟨it, 0, none⟩)) false ty).run Pr w = .ok (.tuple #[.bool true, kv e.k, e.v]) { w1 with heap := w1.heap.setIfInBounds it (.mapIter (some m) c (seen.toArray.push e.born) c) } := by
  have hg : (Go.getObj it).run Pr w = .ok (.mapIter (some m) c seen.toArray c) w := by simp [Go.getObj, Sem.run, hi]
  have hcond : (!seen.toArray.isEmpty && !(l.map (Ent.me kv)).toArray.isEmpty && ((l.map (Ent.me kv)).toArray.all fun e => decide (e.born ≥ c))) = false := by
    cases l with
    | nil => simp
    | cons x l =>
      have h0 : decide ((Ent.me kv x).born ≥ c) = false := decide_eq_false (Nat.not_le.2 (hborn x List.mem_cons_self))
      have : ((x :: l).map (Ent.me kv)).toArray.all (fun e => decide (e.born ≥ c)) = false := by
        rw [← Array.all_toList]
        simp only [List.map_cons, List.all_cons, h0, Bool.false_and]
      rw [this]
      simp
  generalize hleft : (l.filter fun e => !seen.contains e.born) = left
  have hmem : ∀ e ∈ left, e ∈ l ∧ e.born ∉ seen := fun e he => by
    rw [← hleft] at he
    have := List.mem_filter.1 he
    refine ⟨this.1, ?_⟩
    intro h
    have h2 := this.2
    simp [h] at h2
  have hold : ∀ e ∈ left, e.born < c := fun e he => hborn e (hmem e he).1
  have hf1 : ((l.map (Ent.me kv)).toArray.filter fun e => !seen.toArray.contains e.born) = (left.map (Ent.me kv)).toArray := by
    rw [arr_filter, filter_left, hleft]
  have hf2 : ((left.map (Ent.me kv)).toArray.filter fun e => decide (e.born < c)) = (left.map (Ent.me kv)).toArray := by
    rw [arr_filter, filter_old c left hold]
  have hf3 : ((left.map (Ent.me kv)).toArray.filter fun e => decide (e.born ≥ c)) = #[] := by
    rw [arr_filter, filter_new c left hold]
  cases hl : left with
  | nil =>
    refine .inl ⟨fun e he => ?_, ?_⟩
    · refine Classical.byContradiction fun hn => ?_
      have : e ∈ left := by
        rw [← hleft]
        exact List.mem_filter.2 ⟨he, by simp [hn]⟩
      rw [hl] at this
      cases this
    · subst hl
      simp only [Instr.next, Sem.run_bind, hg, Result.andThen_ok, run_getObj_map hb, hcond, Bool.false_eq_true, if_false, hf1, hf2, hf3]
      simp [Question.forced]
  | cons x xs =>
    have hne : (left.map (Ent.me kv)).toArray.isEmpty = false := by rw [hl]; rfl
    generalize hn : (left.map (Ent.me kv)).length = n
    -- the index that is chosen, and the world behind it
    have hch : ∃ (j : Nat) (w1 : World), j < n ∧ (choose (.mapNext n)).run Pr w = .ok j w1 ∧ w1.heap = w.heap ∧ w1.os = w.os ∧ w1.tape = w.tape ∧ w1.output = w.output := by
      have hn0 : 0 < n := by rw [← hn, hl]; simp
      rw [run_choose]
      split
      · exact ⟨0, w, hn0, rfl, rfl, rfl, rfl, rfl⟩
      · exact ⟨_, _, Nat.mod_lt _ hn0, rfl, rfl, rfl, rfl, rfl⟩
    obtain ⟨j, w1, hj, hrun, h1, h2, h3, h4⟩ := hch
    have hjl : j < left.length := by rw [← hn] at hj; simpa using hj
    refine .inr ⟨left[j], (hmem _ (List.getElem_mem hjl)).1, (hmem _ (List.getElem_mem hjl)).2, w1, h1, h2, h3, h4, ?_⟩
    have hcand : ((if (left.map (Ent.me kv)).toArray.isEmpty then #[none] else #[]) ++ (((left.map (Ent.me kv)).toArray ++ #[]).map some) : Array (Option MapEntry)) = ((left.map (Ent.me kv)).map some).toArray := by
      rw [hne]
      apply Array.ext'
      simp
    have hi1 : w1.heap[it]? = some (.mapIter (some m) c seen.toArray c) := by rw [h1]; exact hi
    have hset : (Go.setObj it (.mapIter (some m) c (seen.toArray.push (Ent.me kv left[j]).born) c)).run Pr w1 = .ok () { w1 with heap := w1.heap.setIfInBounds it (.mapIter (some m) c (seen.toArray.push left[j].born) c) } := by
      simp [Go.setObj, Sem.run, hi1, Ent.me]
    have hsz : (((left.map (Ent.me kv)).map some).toArray).size = n := by simpa using hn
    have hat : (((left.map (Ent.me kv)).map some).toArray)[j]? = some (some (Ent.me kv left[j])) := by simp [hjl]
    simp only [Instr.next, Sem.run_bind, hg, Result.andThen_ok, run_getObj_map hb, hcond, Bool.false_eq_true, if_false, hf1, hf2, hf3, hcand, hsz, hrun, hat, hset, Sem.run_pure]
    rfl

theorem Sep.next {it : Nat} {seen : List Nat} (hS : Sep E w (iterC it m c seen :: L)) (hm : mapC kv m l c ∈ L) (hborn : ∀ e ∈ l, e.born < c) {ty : TypeId} {over : World → Prop} {entry : Value → Value → World → Prop}
    (ho : (∀ e ∈ l, e.born ∈ seen) → over w)
    (he : ∀ e ∈ l, e.born ∉ seen → ∀ w', Sep E w' (iterC it m c (seen ++ [e.born]) :: L) → entry (kv e.k) e.v w') : NextM Pr (.pointer (some ⟨it, 0, none⟩)) ty w over entry := by
  have hb : w.heap[m]? = some (.map (l.map (Ent.me kv)).toArray c) := hS.at_ _ (List.mem_cons_of_mem _ hm)
  have hi : w.heap[it]? = some (.mapIter (some m) c seen.toArray c) := hS.at_ _ List.mem_cons_self
  unfold NextM
  rcases run_next hi hb hborn ty with ⟨h1, h2⟩ | ⟨e, hel, hes, w1, h1, h2, h3, h4, h5⟩
  · rw [h2]
    exact ho h1
  · rw [h5]
    refine he e hel hes _ ?_
    have hS1 : Sep E w1 (iterC it m c seen :: L) := ⟨h2.trans hS.os, h3.trans hS.tape, h4.trans hS.output, hS.uniq, fun x hx => by rw [h1]; exact hS.at_ x hx⟩
    have := hS1.setObj (o' := .mapIter (some m) c (seen.toArray.push e.born) c)
    simpa [iterC] using this

theorem Sep.entry {it : Nat} {seen : List Nat} {e : Ent K} (hS : Sep E w L) (hi : iterC it m c (seen ++ [e.born]) ∈ L) (hm : mapC kv m l c ∈ L) (he : e ∈ l) (hn : (l.map (·.born)).Nodup) :
    At Pr w (Instr.entry (.pointer (some ⟨it, 0, none⟩))) (.tuple #[kv e.k, e.v]) := by
  have hb : w.heap[m]? = some (.map (l.map (Ent.me kv)).toArray c) := hS.at_ _ hm
  have hi : w.heap[it]? = some (.mapIter (some m) c (seen ++ [e.born]).toArray c) := hS.at_ _ hi
  have hg : (Go.getObj it).run Pr w = .ok (.mapIter (some m) c (seen ++ [e.born]).toArray c) w := by simp [Go.getObj, Sem.run, hi]
  have hback : ((seen ++ [e.born]).toArray).back? = some e.born := by simp
  have hf := find_born (kv := kv) l e he hn
  have hf' : ((l.map (Ent.me kv)).toArray.find? fun x => x.born == e.born) = some (Ent.me kv e) := by
    simpa using hf
  unfold At
  simp only [Instr.entry, Sem.run_bind, hg, Result.andThen_ok, hback, run_getObj_map hb, bne_self_eq_false, Bool.false_eq_true, if_false, hf', Sem.run_pure]
  rfl

end
end Go.Proofs.Ytonjaaljnjjjcaa

/- Bytes, strings and keys in a heap assertion. Conditions: as each lemma says. -/
set_option linter.unusedVariables false
set_option linter.unusedSimpArgs false
namespace Go.Proofs.Ytonjaaljnjjjcaa
open Go Go.RowKit

def byteV (b : UInt8) : Value := .int .u8 (b.toNat : Int)

theorem byteV_one (l : List UInt8) : ∀ u ∈ l.map byteV, u.oneCell' = true := by
  intro u hu
  obtain ⟨b, _, rfl⟩ := List.mem_map.1 hu
  rfl

/-- A slice that reads as these bytes. -/
abbrev RdB (I : List Chunk) (s : SV) (l : List UInt8) : Prop := RdS I 1 s (l.map byteV)

theorem RdS.len1 {I : List Chunk} {s : SV} {l : List Value} (h : RdS I 1 s l) : s.len = l.length := by have := h.len; omega
theorem RdB.size {I : List Chunk} {s : SV} {l : List UInt8} (h : RdB I s l) : s.len = l.length := by have := h.len; simp at this; omega

def strOf (l : List UInt8) : ByteArray := ⟨l.toArray⟩

theorem strOf_data (s : ByteArray) : strOf s.data.toList = s := by
  cases s; rfl
theorem strOf_inj {l l' : List UInt8} : strOf l = strOf l' ↔ l = l' := by
  unfold strOf
  constructor
  · intro h
    injection h with h
    simpa using congrArg Array.toList h
  · rintro rfl; rfl
theorem toList_data (s : ByteArray) : s.toList = s.data.toList := ByteArray.toList_eq s

theorem ba_beq (a b : ByteArray) : (a == b) = decide (a = b) := by
  have h : (a == b) = (a.data == b.data) := rfl
  rw [h]
  cases a; cases b
  rename_i x y
  by_cases hxy : x = y
  · subst hxy; simp
  · rw [decide_eq_false (by simp only [ByteArray.mk.injEq]; exact hxy)]
    simp [hxy]
theorem toList_strOf (l : List UInt8) : (strOf l).toList = l := by rw [toList_data]; rfl
theorem size_strOf (l : List UInt8) : (strOf l).size = l.length := rfl

theorem foldl_push (l : List UInt8) : ∀ r : ByteArray, (l.map fun b => ((b.toNat : Nat) : Int)).foldl (fun r n => r.push (UInt8.ofNat n.toNat)) r = ⟨r.data ++ l.toArray⟩ := by
  induction l with
  | nil => intro r; simp
  | cons b l ih =>
    intro r
    rw [List.map_cons, List.foldl_cons, ih]
    simp [ByteArray.push]

theorem Sep.toStr {E w : World} {L I : List Chunk} (hS : Sep E w L) {s : SV} {l : List UInt8} (hr : RdB I s l) (hI : ∀ c ∈ I, c ∈ L) {st dt : TypeId}
    (h1 : Pr.underlying st = some (.slice 5)) (h2 : Pr.underlying dt = some .string) : At Pr w (convert st dt (.slice s.a s.len s.cap)) (.string (strOf l)) := by
  have hsrc := hr.src hS hI
  have he : Pr.underlying 5 = some (.int .u8) := by kernel_rfl
  unfold At
  rw [run_convert_bytes_string w st dt 5 s.a s.len s.cap h1 he h2]
  cases ha : s.a with
  | none =>
    have := hsrc.nil ha
    have hl : l = [] := List.eq_nil_of_length_eq_zero (by rw [← hr.size, this])
    subst hl
    simp [Conv.bytesToString, strOf]
    rfl
  | some a =>
    have hlen : s.len = l.length := hr.size
    have hmap : l.map byteV = (l.map fun b => ((b.toNat : Nat) : Int)).map (Value.int .u8) := by simp [byteV]
    have hload : (loadCells a s.len).run Pr w = .ok ((l.map fun b => ((b.toNat : Nat) : Int)).map (Value.int .u8)).toArray w := by
      rw [← hmap, hlen]
      have := run_loadCells_list (P := Pr) w a (l.map byteV) (fun j v hj => hsrc.at_ a ha j v hj)
      simpa using this
    rw [run_bytesToString w a s.len s.cap _ hload, foldl_push]
    simp [strOf]

/-! ### Keys -/
theorem findNow_str (k : ByteArray) : ∀ (l : List (Ent ByteArray)) (i : Nat), Instr.findNow .string (.string k) (l.map (Ent.me Value.string)) i = some (lookE k l i)
  | [], i => rfl
  | x :: l, i => by
    rw [List.map_cons]
    unfold Instr.findNow lookE
    simp only [Ent.me, Instr.sameNow]
    by_cases h : x.k = k
    · rw [if_pos h, h]
      rw [ba_beq, decide_eq_true rfl]
    · rw [if_neg h]
      have hb : (k == x.k) = false := by
        rw [ba_beq]
        exact decide_eq_false fun e => h e.symm
      rw [hb]
      exact findNow_str k l (i + 1)

theorem keyOk_str {kt : TypeId} (hu : Pr.underlying kt = some .string) (w : World) (l : List (Ent ByteArray)) (k : ByteArray) : KeyOk Pr kt Value.string w l k := by
  refine ⟨?_, fun e => ?_, ?_⟩
  · simp only [Instr.findKey, Sem.run_bind, run_underlying hu, Result.andThen_ok]
    rw [findNow_str]
    rfl
  · have : ∀ n, (Instr.checkKey e (n + 1) kt (.string k)).run Pr w = .ok () w := fun n => by
      unfold Instr.checkKey
      simp only [Sem.run_bind, run_underlying hu, Result.andThen_ok]
      rfl
    exact this 9999
  · have : ∀ n, Instr.sameBits n (.string k) (.string k) = true := fun n => by
      have h : (k == k) = true := by rw [ba_beq]; exact decide_eq_true rfl
      cases n <;> simp [Instr.sameBits, h]
    exact this 10000

theorem ba_eq_toList (a b : ByteArray) : (a.toList == b.toList) = decide (a = b) := by
  rw [toList_data, toList_data]
  cases a; cases b
  rename_i x y
  have h : (x.toList = y.toList) ↔ x = y := ⟨fun h => Array.ext' h, fun h => by rw [h]⟩
  by_cases hxy : x = y
  · subst hxy
    simp
  · rw [decide_eq_false (by simp only [ByteArray.mk.injEq]; exact hxy)]
    simp only [beq_eq_false_iff_ne, ne_eq]
    exact fun e => hxy (h.1 e)

/-! ### Keys that are pointers to blocks of cells -/
def ptrV (b : Nat) : Value := .pointer (some ⟨b, 0, none⟩)

/-- Blocks of cells that nobody froze. -/
def Plain (w : World) (b : Nat) : Prop := ∃ cs T, w.heap[b]? = some (.cells cs T (0, 0))

theorem run_sameAddr_plain {w : World} {a b : Nat} (ha : Plain w a) (hb : Plain w b) : (sameAddr ⟨a, 0, none⟩ ⟨b, 0, none⟩).run Pr w = .ok (decide (a = b)) w := by
  obtain ⟨ca, ta, ha⟩ := ha
  obtain ⟨cb, tb, hb⟩ := hb
  by_cases h : a = b
  · subst h
    simp [sameAddr]
  · have h0 : (a == b) = false := by simp [h]
    simp [sameAddr, h0, h, World.frozen?, ha, hb, noView, viewAt, World.shape?, mayBeOne, stringish]

theorem run_equal_ptr {w : World} {pt e : TypeId} {n : Nat} (hu : Pr.underlying pt = some (.pointer e)) (hs : sizeOf? Pr e = some (n + 1)) {a b : Nat} (ha : Plain w a) (hb : Plain w b) :
    (Op.equal pt (ptrV a) (ptrV b)).run Pr w = .ok (decide (a = b)) w := by
  have h : ∀ d, (Op.equalIn (d + 1) pt (ptrV a) (ptrV b)).run Pr w = .ok (decide (a = b)) w := fun d => by
    simp only [Op.equalIn, ptrV, Sem.run_bind, run_underlying hu, Result.andThen_ok, run_sizeOf_of hs]
    simp [run_sameAddr_plain ha hb]
  exact h 9999

theorem findAsking_ptr {w : World} {pt e : TypeId} {n : Nat} (hu : Pr.underlying pt = some (.pointer e)) (hs : sizeOf? Pr e = some (n + 1)) {k : Nat} (hk : Plain w k) :
    ∀ (l : List (Ent Nat)) (i : Nat), (∀ x ∈ l, Plain w x.k) → (Instr.findAsking pt (ptrV k) (l.map (Ent.me ptrV)) i).run Pr w = .ok (lookE k l i) w
  | [], i, _ => by simp [Instr.findAsking, lookE]
  | x :: l, i, hl => by
    rw [List.map_cons]
    unfold Instr.findAsking lookE
    simp only [Ent.me, Sem.run_bind, run_equal_ptr hu hs hk (hl x List.mem_cons_self), Result.andThen_ok]
    by_cases h : x.k = k
    · rw [if_pos h]
      simp [h]
    · rw [if_neg h]
      have h' : ¬ k = x.k := fun e => h e.symm
      simp only [h', decide_false, Bool.false_eq_true, if_false]
      exact findAsking_ptr hu hs hk l (i + 1) fun y hy => hl y (List.mem_cons_of_mem _ hy)

theorem keyOk_ptr {w : World} {pt e : TypeId} {n : Nat} (hu : Pr.underlying pt = some (.pointer e)) (hs : sizeOf? Pr e = some (n + 1)) {k : Nat} {l : List (Ent Nat)} (hk : Plain w k) (hl : ∀ x ∈ l, Plain w x.k) : KeyOk Pr pt ptrV w l k := by
  refine ⟨?_, fun em => ?_, ?_⟩
  · simp only [Instr.findKey, Sem.run_bind, run_underlying hu, Result.andThen_ok]
    cases l with
    | nil => rfl
    | cons x l =>
      have h0 : Instr.findNow (.pointer e) (ptrV k) ((x :: l).map (Ent.me ptrV)) 0 = none := rfl
      rw [h0]
      exact findAsking_ptr hu hs hk (x :: l) 0 hl
  · have : ∀ n, (Instr.checkKey em (n + 1) pt (ptrV k)).run Pr w = .ok () w := fun n => by
      unfold Instr.checkKey
      simp only [Sem.run_bind, run_underlying hu, Result.andThen_ok]
      rfl
    exact this 9999
  · have : ∀ n, Instr.sameBits n (ptrV k) (ptrV k) = true := fun n => by
      cases n <;> simp [Instr.sameBits, ptrV]
    exact this 10000

theorem Sep.plain {E w : World} {L : List Chunk} (hS : Sep E w L) {b : Nat} {cs : Array Value} {T : TypeId} (hc : (b, Obj.cells cs T (0, 0)) ∈ L) : Plain w b := ⟨cs, T, hS.at_ _ hc⟩

end Go.Proofs.Ytonjaaljnjjjcaa

/- Ranges over functions in a heap assertion. Conditions: as each lemma says. -/
set_option linter.unusedVariables false
set_option linter.unusedSimpArgs false
namespace Go.Proofs.Ytonjaaljnjjjcaa
open Go Go.RowKit

def loopC (X : LB) (l D : Nat) (st : LoopState) (pe : Option Code) : Chunk := (l, X.loop D st pe)
def defC (D : Nat) : Chunk := (D, .deferred (some []))

theorem Sep.putObj {E w : World} {L : List Chunk} {m : Nat} {o o' : Obj} (hS : Sep E w ((m, o) :: L)) : Sep E (w.putObj m o') ((m, o') :: L) := hS.setObj

theorem Enters.sep {X : LB} {l D : Nat} {E w w1 : World} {L : List Chunk} (h : Enters X l D w w1) (hS : Sep E w L) : Sep E w1 (loopC X l D .ready none :: defC D :: L) := by
  obtain ⟨rfl, rfl, rfl⟩ := h
  have h1 := hS.push (.deferred (some []))
  have h2 := h1.push (X.loop w.heap.size .ready none)
  have e : w.heap.size + 1 = (w.heap.push (.deferred (some []))).size := by simp
  have h3 : Sep E { { w with heap := w.heap.push (.deferred (some [])) } with heap := (w.heap.push (.deferred (some []))).push (X.loop w.heap.size .ready none) } (((w.heap.push (.deferred (some []))).size, X.loop w.heap.size .ready none) :: (w.heap.size, .deferred (some [])) :: L) := h2
  rw [← e] at h3
  exact h3

theorem Sep.begin {E w : World} {L : List Chunk} {X : LB} {l D : Nat} (hS : Sep E w (loopC X l D .ready none :: L)) : ∃ w2, Sem.run Pr (Instr.beginRound l) w = .ok () w2 ∧ Sep E w2 (loopC X l D .busy none :: L) := by
  have hb : w.heap[l]? = some (X.loop D .ready none) := hS.at_ _ List.mem_cons_self
  refine ⟨_, run_beginRound (r := { state := .ready, pending := none, fn := X.fn, tmps := X.tmps, params := X.ps, assign := X.assign, body := X.body, defers := D }) hb rfl, ?_⟩
  exact Sep.putObj (o := X.loop D .ready none) hS

theorem yieldC_mono {l : Nat} {args : Array Value} {w : World} {R R' : Ending → World → Prop} (h : YieldC Pr l args w R) (hm : ∀ e w, R e w → R' e w) : YieldC Pr l args w R' := by
  obtain ⟨f, t, x, y, w', h1, h2⟩ := h
  exact ⟨f, t, x, y, w', h1, h2.mono hm⟩

/-- A round: yield is called. -/
theorem yieldS {E w : World} {F : List Chunk} {X : LB} {l D : Nat} {args : List Value} {Pn Pt : List Chunk → Prop} {R : Ending → World → Prop} (hS : Sep E w (loopC X l D .ready none :: F))
    (h : X.runs Pr l args w ⟨fun w => ∃ F', Pn F' ∧ Sep E w (loopC X l D .busy none :: F'), fun w => ∃ F', Pt F' ∧ Sep E w (loopC X l D .busy none :: F'), fun _ _ => False⟩)
    (hn : ∀ F' w, Pn F' → Sep E w (loopC X l D .ready none :: F') → R (.returned (.bool true)) w)
    (hr : ∀ F' w, Pt F' → Sep E w (loopC X l D .done (some .ret) :: F') → R (.returned (.bool false)) w) : YieldC Pr l args.toArray w R := by
  have hb : w.heap[l]? = some (X.loop D .ready none) := hS.at_ _ List.mem_cons_self
  obtain ⟨hlen, hw⟩ := h
  refine ⟨_, _, _, _, _, run_yield (r := { state := .ready, pending := none, fn := X.fn, tmps := X.tmps, params := X.ps, assign := X.assign, body := X.body, defers := D }) hb (by simpa using hlen), ?_⟩
  refine (roundIn_of_wpIn (F := Fr none) (n := 0) trivial (wpIn_mono hw ?_) : RoundIn (Fr none) 0 Pr l X.fn _ X.assign X.body w R)
  intro e a w1 hq
  cases e with
  | normal =>
    obtain ⟨w2, hbr, hb⟩ := hq
    refine ⟨w2, hbr, wpIn_mono hb ?_⟩
    intro e a w3 hq
    have fin : ∀ (F' : List Chunk) (j : Option Code), Sep E w3 (loopC X l D .busy none :: F') → ∃ w4, (Instr.endRound l j).run Pr w3 = .ok (.bool j.isNone) w4 ∧ Sep E w4 (loopC X l D (if j.isNone then .ready else .done) j :: F') := by
      intro F' j hS3
      have hb3 : w3.heap[l]? = some (X.loop D .busy none) := hS3.at_ _ List.mem_cons_self
      refine ⟨_, run_endRound (r := { state := .busy, pending := none, fn := X.fn, tmps := X.tmps, params := X.ps, assign := X.assign, body := X.body, defers := D }) j hb3, ?_⟩
      exact Sep.putObj (o := X.loop D .busy none) hS3
    cases e with
    | normal =>
      obtain ⟨F', hP, hS3⟩ := hq
      obtain ⟨w4, h4, hS4⟩ := fin F' none hS3
      exact ⟨_, w4, h4, hn F' w4 hP hS4⟩
    | ret =>
      obtain ⟨F', hP, hS3⟩ := hq
      obtain ⟨w4, h4, hS4⟩ := fin F' (some .ret) hS3
      exact ⟨_, w4, h4, hr F' w4 hP hS4⟩
    | exit i => exact hq.elim
    | goto t => exact (hq : False).elim
    | panic c => exact (hq : False).elim
    | outgrown => exact (hq : False).elim
  | exit i => exact (hq : False).elim
  | ret => exact (hq : False).elim
  | goto t => exact (hq : False).elim
  | panic c => exact (hq : False).elim
  | outgrown => exact (hq : False).elim

theorem leave_nrm {E w : World} {L : List Chunk} {X : LB} {l D : Nat} {Qn Qr : World → Prop} {Qx : Nat → World → Prop} (hS : Sep E w (loopC X l D .ready none :: L)) (h : ∀ w', Sep E w' (loopC X l D .exhausted none :: L) → Qn w') : leaveV Pr X l D Qn Qr Qx w :=
  ⟨.ready, none, hS.at_ _ List.mem_cons_self, by decide, h _ (Sep.putObj (o := X.loop D .ready none) hS)⟩
theorem leave_ret {E w : World} {L : List Chunk} {X : LB} {l D : Nat} {Qn Qr : World → Prop} {Qx : Nat → World → Prop} (hS : Sep E w (loopC X l D .done (some .ret) :: L)) (h : ∀ w', Sep E w' (loopC X l D .exhausted (some .ret) :: L) → Qr w') : leaveV Pr X l D Qn Qr Qx w :=
  ⟨.done, some .ret, hS.at_ _ List.mem_cons_self, by decide, h _ (Sep.putObj (o := X.loop D .done (some .ret)) hS)⟩

theorem shutS {E w : World} {L : List Chunk} {D : Nat} {K : World → Prop} (hS : Sep E w (defC D :: L)) (h : ∀ w', Sep E w' ((D, .deferred none) :: L) → K w') : shutV D w K :=
  ⟨hS.at_ _ List.mem_cons_self, h _ (Sep.putObj (o := .deferred (some [])) hS)⟩

theorem rangeS {E w : World} {L : List Chunk} {gf : Nat} {first lb : Array Value} {H : LB → Nat → Prop} {Qn Qr : Nat → World → Prop} {Qx : Nat → Nat → World → Prop} (hp : plainFunc Pr gf = true) (hS : Sep E w L)
    (h : ∀ (X : LB) (l D : Nat) (w1 : World), Sep E w1 (loopC X l D .ready none :: defC D :: L) → H X l → Calls Pr gf (first.toList ++ [Value.func (.yield l) #[] #[]] ++ lb.toList).toArray w1 fun e w3 => (∃ v, e = .returned v) ∧ leaveV Pr X l D (Qn D) (Qr D) (Qx D) w3) :
    rangeV Pr (.func (.func gf) first lb) w H Qn Qr Qx :=
  ⟨hp, fun X l D w1 he hH => h X l D w1 (he.sep hS) hH⟩

/-- What a caller of an iterator keeps: behind these that came, its blocks, what is read only. -/
structure YInv (α : Type) where
  on : List α → List Chunk → List Chunk → Prop
  off : List α → List Chunk → List Chunk → Prop
  mono : ∀ {pre U I I'}, (∀ c ∈ I, c ∈ I') → on pre U I → on pre U I'
  mono' : ∀ {pre U I I'}, (∀ c ∈ I, c ∈ I') → off pre U I → off pre U I'

/-- What a round does, of an iterator's caller. -/
def Yields1 {α : Type} (E : World) (l : Nat) (J : YInv α) (ok : List α → Prop) (enc : List Chunk → α → List Value → Prop) : Prop :=
  ∀ (pre : List α) (x : α) (U I R : List Chunk) (w : World) (vs : List Value), ok (pre ++ [x]) → J.on pre U I → enc I x vs → Sep E w (U ++ (I ++ R)) →
    YieldC Pr l vs.toArray w fun e w' => ∃ U', Sep E w' (U' ++ (I ++ R)) ∧ ((e = .returned (.bool true) ∧ J.on (pre ++ [x]) U' I) ∨ (e = .returned (.bool false) ∧ J.off (pre ++ [x]) U' I))

end Go.Proofs.Ytonjaaljnjjjcaa

/- A disk that may crash, in plain Lean. No program in sight. -/
set_option linter.unusedVariables false
set_option linter.unusedSimpArgs false
namespace Go.Proofs.Ytonjaaljnjjjcaa
open Go

/-! ### Names -/
def nlt (a b : ByteArray) : Prop := Op.bytesLess a.toList b.toList = true
instance (a b : ByteArray) : Decidable (nlt a b) := by unfold nlt; infer_instance
abbrev Names := List (ByteArray × Nat)

def findN (k : ByteArray) : Names → Option Nat
  | [] => none
  | x :: l => if x.1 = k then some x.2 else findN k l
def delN (k : ByteArray) : Names → Names
  | [] => []
  | x :: l => if x.1 = k then delN k l else x :: delN k l
/-- Put ahead of the first that is greater. -/
def insN (k : ByteArray) (f : Nat) : Names → Names
  | [] => [(k, f)]
  | x :: l => if nlt k x.1 then (k, f) :: x :: l else x :: insN k f l

structure MFile where
  bytes : List UInt8
  kept : Nat

structure MChange where
  gone : ByteArray
  new : ByteArray
  file : Nat

def noName : ByteArray := ByteArray.empty

def doN (nm : Names) (c : MChange) : Names := if c.new = noName then delN c.gone nm else insN c.new c.file (delN c.new (delN c.gone nm))

structure MDisk where
  files : List MFile
  now : Names
  kept : Names
  changes : List MChange
  room : Nat
  down : Bool
  doomed : Bool
  left : Nat

namespace MDisk

def new (room : Int) : MDisk := ⟨[], [], [], [], room.toNat, false, false, 0⟩

def ready (M : MDisk) : Int × MDisk :=
  if M.down then (40, M)
  else if M.doomed then (if M.left = 0 then (40, { M with down := true }) else (0, { M with left := M.left - 1 }))
  else (0, M)

def chg (M : MDisk) (c : MChange) : MDisk := { M with now := doN M.now c, changes := M.changes ++ [c] }

def right (n : ByteArray) : Bool := decide (1 ≤ n.size) && decide (n.size ≤ 32)

def create (M : MDisk) (n : ByteArray) : Int × MDisk :=
  if M.ready.1 ≠ 0 then M.ready
  else if right n = false then (1, M.ready.2)
  else if (findN n M.ready.2.now).isSome then (4, M.ready.2)
  else (0, ({ M.ready.2 with files := M.ready.2.files ++ [MFile.mk [] 0] } : MDisk).chg ⟨noName, n, M.ready.2.files.length⟩)

def holds (M : MDisk) (i : Nat) : Bool := M.kept.any (fun x => decide (x.2 = i)) || M.changes.any (fun c => decide (c.new ≠ noName) && decide (c.file = i))

/-- The bytes of those of the first files that are held. -/
def usedTo (M : MDisk) : Nat → List MFile → Nat
  | _, [] => 0
  | i, f :: fs => (if M.holds i then f.bytes.length else 0) + usedTo M (i + 1) fs
def used (M : MDisk) : Nat := M.usedTo 0 M.files

def find (M : MDisk) (n : ByteArray) : Int × Option Nat × MDisk :=
  if M.ready.1 ≠ 0 then (M.ready.1, none, M.ready.2)
  else match findN n M.ready.2.now with
    | none => (2, none, M.ready.2)
    | some i => (0, some i, M.ready.2)

def setFile (M : MDisk) (i : Nat) (g : MFile → MFile) : MDisk := { M with files := M.files.modify i g }
def fileAt (M : MDisk) (i : Nat) : MFile := M.files.getD i ⟨[], 0⟩

def append (M : MDisk) (n : ByteArray) (b : List UInt8) : Int × MDisk :=
  match M.find n with
  | (e, none, M') => (e, M')
  | (_, some i, M') => if M'.used + b.length > M'.room then (41, M') else (0, M'.setFile i fun f => ⟨f.bytes ++ b, f.kept⟩)

def read (M : MDisk) (n : ByteArray) : Int × List UInt8 × MDisk :=
  match M.find n with
  | (e, none, M') => (e, [], M')
  | (_, some i, M') => (0, (M'.fileAt i).bytes, M')

def sync (M : MDisk) (n : ByteArray) : Int × MDisk :=
  match M.find n with
  | (e, none, M') => (e, M')
  | (_, some i, M') => (0, M'.setFile i fun f => ⟨f.bytes, f.bytes.length⟩)

def rename (M : MDisk) (a b : ByteArray) : Int × MDisk :=
  match M.find a with
  | (e, none, M') => (e, M')
  | (_, some i, M') => if right b = false then (1, M') else (0, M'.chg ⟨a, b, i⟩)

def remove (M : MDisk) (n : ByteArray) : Int × MDisk :=
  match M.find n with
  | (e, none, M') => (e, M')
  | (_, some _, M') => (0, M'.chg ⟨n, noName, 0⟩)

def syncNames (M : MDisk) : Int × MDisk :=
  if M.ready.1 ≠ 0 then M.ready else (0, { M.ready.2 with kept := M.ready.2.now, changes := [] })

def names (M : MDisk) : Int × List ByteArray × MDisk :=
  if M.ready.1 ≠ 0 then (M.ready.1, [], M.ready.2) else (0, M.ready.2.now.map (·.1), M.ready.2)

def doom (M : MDisk) (n : Int) : Int × MDisk := if n < 0 then (1, M) else (0, { M with doomed := true, left := n.toNat })
def grow (M : MDisk) (n : Int) : Int × MDisk := if n < 0 then (1, M) else (0, { M with room := n.toNat })

/-- How many bytes are left, of those that are not kept. -/
def leftOf (ns : List Int) (i most : Nat) : Nat := match ns with
  | [] => 0
  | _ => min (max (ns.getD (i % ns.length) 0) 0).toNat most

def crashed (M : MDisk) (ns : List Int) : Nat → Names → List MFile
  | _, [] => []
  | i, x :: l => ⟨(M.fileAt x.2).bytes.take ((M.fileAt x.2).kept + leftOf ns i ((M.fileAt x.2).bytes.length - (M.fileAt x.2).kept)), (M.fileAt x.2).kept + leftOf ns i ((M.fileAt x.2).bytes.length - (M.fileAt x.2).kept)⟩ :: crashed M ns (i + 1) l
def numbered : Nat → Names → Names
  | _, [] => []
  | i, x :: l => (x.1, i) :: numbered (i + 1) l

def crash (M : MDisk) (names : Int) (ns : List Int) : MDisk :=
  let at_ := (M.changes.take names.toNat).foldl doN M.kept
  { files := M.crashed ns 0 at_, now := numbered 0 at_, kept := numbered 0 at_, changes := [], room := M.room, down := false, doomed := false, left := 0 }

end MDisk

/-! ### Names: laws -/
theorem nlt_irrefl (a : ByteArray) : ¬ nlt a a := by
  have h : ∀ l : List UInt8, Op.bytesLess l l = false := fun l => by
    induction l with
    | nil => rfl
    | cons x l ih => simp [Op.bytesLess, ih]
  simp [nlt, h]

theorem findN_del (k j : ByteArray) : ∀ l : Names, findN j (delN k l) = if j = k then none else findN j l
  | [] => by simp [delN, findN]
  | x :: l => by
    unfold delN
    by_cases hx : x.1 = k
    · rw [if_pos hx, findN_del k j l]
      by_cases hj : j = k
      · simp [hj]
      · have : ¬ x.1 = j := fun e => hj (e ▸ hx)
        simp [hj, findN, this]
    · rw [if_neg hx]
      unfold findN
      rw [findN_del k j l]
      by_cases hxj : x.1 = j
      · have : ¬ j = k := fun e => hx (hxj.trans e)
        simp [hxj, this]
      · simp [hxj]

theorem findN_ins (k : ByteArray) (f : Nat) (j : ByteArray) : ∀ l : Names, findN k l = none → findN j (insN k f l) = if j = k then some f else findN j l
  | [], _ => by
    simp only [insN, findN]
    by_cases h : j = k
    · simp [h]
    · have : ¬ k = j := fun e => h e.symm
      simp [h, this]
  | x :: l, h => by
    have hx : ¬ x.1 = k := fun e => by simp [findN, e] at h
    have hl : findN k l = none := by simpa [findN, hx] using h
    unfold insN
    split
    · by_cases hj : j = k
      · simp [findN, hj]
      · have : ¬ k = j := fun e => hj e.symm
        simp [findN, hj, this]
    · unfold findN
      rw [findN_ins k f j l hl]
      by_cases hxj : x.1 = j
      · have : ¬ j = k := fun e => hx (hxj.trans e)
        simp [hxj, this]
      · simp [hxj]

theorem findN_do (nm : Names) (c : MChange) (j : ByteArray) :
    findN j (doN nm c) = if c.new ≠ noName ∧ j = c.new then some c.file else if j = c.gone then none else findN j nm := by
  unfold doN
  by_cases h : c.new = noName
  · rw [if_pos h, findN_del]
    simp [h]
  · rw [if_neg h, findN_ins _ _ _ _ (by rw [findN_del]; simp), findN_del, findN_del]
    by_cases hj : j = c.new
    · simp [h, hj]
    · simp [hj]

theorem bl_trans : ∀ {a b c : List UInt8}, Op.bytesLess a b = true → Op.bytesLess b c = true → Op.bytesLess a c = true
  | _, [], _, h, _ => by simp [Op.bytesLess] at h
  | _, _ :: _, [], _, h => by simp [Op.bytesLess] at h
  | [], _ :: _, _ :: _, _, _ => rfl
  | x :: a, y :: b, z :: c, h1, h2 => by
    simp only [Op.bytesLess, Bool.or_eq_true, decide_eq_true_eq, Bool.and_eq_true, beq_iff_eq] at h1 h2 ⊢
    rcases h1 with h1 | ⟨rfl, h1⟩
    · rcases h2 with h2 | ⟨rfl, h2⟩
      · exact .inl (UInt8.lt_trans h1 h2)
      · exact .inl h1
    · rcases h2 with h2 | ⟨rfl, h2⟩
      · exact .inl h2
      · exact .inr ⟨rfl, bl_trans h1 h2⟩
theorem bl_total : ∀ {a b : List UInt8}, a ≠ b → Op.bytesLess a b = true ∨ Op.bytesLess b a = true
  | [], [], h => absurd rfl h
  | [], _ :: _, _ => .inl rfl
  | _ :: _, [], _ => .inr rfl
  | x :: a, y :: b, h => by
    simp only [Op.bytesLess, Bool.or_eq_true, decide_eq_true_eq, Bool.and_eq_true, beq_iff_eq]
    by_cases hxy : x = y
    · subst hxy
      have : a ≠ b := fun e => h (by rw [e])
      rcases bl_total this with h1 | h1
      · exact .inl (.inr ⟨rfl, h1⟩)
      · exact .inr (.inr ⟨rfl, h1⟩)
    · have h1 : x.toNat ≠ y.toNat := fun e => hxy (UInt8.toNat_inj.1 e)
      rcases Nat.lt_or_gt_of_ne h1 with h2 | h2
      · exact .inl (.inl (UInt8.lt_iff_toNat_lt.2 h2))
      · exact .inr (.inl (UInt8.lt_iff_toNat_lt.2 h2))

theorem ba_ext {a b : ByteArray} (h : a.toList = b.toList) : a = b := by
  rw [ByteArray.toList_eq, ByteArray.toList_eq] at h
  cases a; cases b
  rename_i x y
  congr 1
  exact Array.ext' h

theorem nlt_trans {a b c : ByteArray} (h : nlt a b) (h' : nlt b c) : nlt a c := bl_trans h h'
theorem nlt_total {a b : ByteArray} (h : a ≠ b) : nlt a b ∨ nlt b a := bl_total fun e => h (ba_ext e)
theorem nlt_ne {a b : ByteArray} (h : nlt a b) : a ≠ b := fun e => nlt_irrefl a (e ▸ h)

/-- Names rise. -/
def SortedN (nm : Names) : Prop := nm.Pairwise fun x y => nlt x.1 y.1

theorem delN_sub (k : ByteArray) : ∀ nm : Names, (delN k nm).Sublist nm
  | [] => List.Sublist.refl _
  | x :: nm => by
    unfold delN
    split
    · exact (delN_sub k nm).cons x
    · exact (delN_sub k nm).cons_cons x
theorem delN_sorted {nm : Names} (h : SortedN nm) (k : ByteArray) : SortedN (delN k nm) := List.Pairwise.sublist (delN_sub k nm) h
theorem delN_no (k : ByteArray) : ∀ nm : Names, ∀ x ∈ delN k nm, x.1 ≠ k
  | [] => by simp [delN]
  | x :: nm => by
    unfold delN
    split
    · exact delN_no k nm
    · rename_i h
      intro y hy
      rcases List.mem_cons.1 hy with rfl | hy
      · exact h
      · exact delN_no k nm y hy
theorem insN_mem (k : ByteArray) (f : Nat) : ∀ (nm : Names) (x : ByteArray × Nat), x ∈ insN k f nm ↔ x = (k, f) ∨ x ∈ nm
  | [], x => by simp [insN]
  | y :: nm, x => by
    unfold insN
    split
    · simp
    · rw [List.mem_cons, insN_mem k f nm x, List.mem_cons]
      constructor
      · rintro (h | h | h)
        · exact .inr (.inl h)
        · exact .inl h
        · exact .inr (.inr h)
      · rintro (h | h | h)
        · exact .inr (.inl h)
        · exact .inl h
        · exact .inr (.inr h)
theorem insN_sorted (k : ByteArray) (f : Nat) : ∀ {nm : Names}, SortedN nm → (∀ x ∈ nm, x.1 ≠ k) → SortedN (insN k f nm)
  | [], _, _ => List.pairwise_singleton _ _
  | y :: nm, h, hn => by
    have h := List.pairwise_cons.1 h
    unfold insN
    split
    · rename_i hk
      refine List.pairwise_cons.2 ⟨fun x hx => ?_, List.pairwise_cons.2 h⟩
      rcases List.mem_cons.1 hx with rfl | hx
      · exact hk
      · exact nlt_trans hk (h.1 x hx)
    · rename_i hk
      have hyk : nlt y.1 k := (nlt_total (hn y List.mem_cons_self)).resolve_right hk
      refine List.pairwise_cons.2 ⟨fun x hx => ?_, insN_sorted k f h.2 fun x hx => hn x (List.mem_cons_of_mem _ hx)⟩
      rcases (insN_mem k f nm x).1 hx with rfl | hx
      · exact hyk
      · exact h.1 x hx
theorem doN_sorted {nm : Names} (h : SortedN nm) (c : MChange) : SortedN (doN nm c) := by
  unfold doN
  split
  · exact delN_sorted h _
  · exact insN_sorted _ _ (delN_sorted (delN_sorted h _) _) (delN_no _ _)

theorem findN_mem {nm : Names} (h : SortedN nm) {x : ByteArray × Nat} (hx : x ∈ nm) : findN x.1 nm = some x.2 := by
  induction nm with
  | nil => cases hx
  | cons y nm ih =>
    have h := List.pairwise_cons.1 h
    unfold findN
    rcases List.mem_cons.1 hx with rfl | hx
    · simp
    · rw [if_neg (nlt_ne (h.1 x hx))]
      exact ih h.2 hx
theorem mem_of_findN {k : ByteArray} {i : Nat} : ∀ {nm : Names}, findN k nm = some i → (k, i) ∈ nm
  | [], h => by cases h
  | x :: nm, h => by
    unfold findN at h
    split at h
    · rename_i hx
      simp only [Option.some.injEq] at h
      rw [← hx, ← h]
      exact List.mem_cons_self
    · exact List.mem_cons_of_mem _ (mem_of_findN h)

end Go.Proofs.Ytonjaaljnjjjcaa

/- A disk that may crash, in plain Lean: how big it is; a run's writer. No program in sight. -/
set_option linter.unusedVariables false
set_option linter.unusedSimpArgs false
namespace Go.Proofs.Ytonjaaljnjjjcaa
open Go

theorem ready_same (M : MDisk) : M.ready.2.files = M.files ∧ M.ready.2.now = M.now ∧ M.ready.2.kept = M.kept ∧ M.ready.2.changes = M.changes ∧ M.ready.2.room = M.room := by
  unfold MDisk.ready
  split
  · simp
  · split
    · split <;> simp
    · simp

theorem find_st (M : MDisk) (n : ByteArray) : (M.find n).2.2 = M.ready.2 := by
  unfold MDisk.find
  split
  · rfl
  · split <;> rfl

theorem find_cases (M : MDisk) (n : ByteArray) : (∃ e, e ≠ 0 ∧ M.find n = (e, none, M.ready.2)) ∨ ∃ i, M.find n = (0, some i, M.ready.2) ∧ findN n M.ready.2.now = some i := by
  unfold MDisk.find
  split
  · rename_i h
    exact .inl ⟨_, h, rfl⟩
  · split
    · exact .inl ⟨2, by decide, rfl⟩
    · rename_i i h
      exact .inr ⟨i, rfl, h⟩

def MDisk.total (M : MDisk) : Nat := ms (fun f => f.bytes.length) M.files

/-- It is no bigger than that. -/
structure MDisk.Fit (M : MDisk) (n : Nat) : Prop where
  left : M.left ≤ 9223372036854775807
  total : M.total ≤ n
  changes : M.changes.length ≤ n

namespace MDisk
theorem Fit.mono {M : MDisk} {n m : Nat} (h : M.Fit n) (hm : n ≤ m) : M.Fit m := ⟨h.left, Nat.le_trans h.total hm, Nat.le_trans h.changes hm⟩
theorem fit_new (room : Int) : (MDisk.new room).Fit 0 := ⟨Nat.zero_le _, Nat.le_refl _, Nat.le_refl _⟩
theorem Fit.ready {M : MDisk} {n : Nat} (h : M.Fit n) : M.ready.2.Fit n := by
  obtain ⟨h1, _, _, h4, _⟩ := ready_same M
  refine ⟨?_, by unfold MDisk.total; rw [h1]; exact h.total, by rw [h4]; exact h.changes⟩
  have := h.left
  unfold MDisk.ready
  split
  · exact this
  · split
    · split
      · exact this
      · show M.left - 1 ≤ _; omega
    · exact this
theorem Fit.chg {M : MDisk} {n : Nat} (h : M.Fit n) (c : MChange) : (M.chg c).Fit (n + 1) := ⟨h.left, Nat.le_succ_of_le h.total, by simp only [MDisk.chg, List.length_append, List.length_singleton]; have := h.changes; omega⟩

theorem ms_modify (k : Nat) (g : MFile → MFile) (hg : ∀ f, (g f).bytes.length ≤ f.bytes.length + k) : ∀ (l : List MFile) (i : Nat), ms (fun f => f.bytes.length) (l.modify i g) ≤ ms (fun f => f.bytes.length) l + k
  | [], i => by cases i <;> simp [ms]
  | f :: l, 0 => by
    have := hg f
    simp [ms]; omega
  | f :: l, i + 1 => by
    have := ms_modify k g hg l i
    simp [ms]; omega
theorem Fit.set {M : MDisk} {n : Nat} (h : M.Fit n) (i k : Nat) (g : MFile → MFile) (hg : ∀ f, (g f).bytes.length ≤ f.bytes.length + k) : (M.setFile i g).Fit (n + k) :=
  ⟨h.left, Nat.le_trans (ms_modify k g hg M.files i) (by have := h.total; unfold MDisk.total at this; omega), Nat.le_trans h.changes (by omega)⟩

theorem Fit.create {M : MDisk} {n : Nat} (h : M.Fit n) (s : ByteArray) : (M.create s).2.Fit (n + 1) := by
  unfold MDisk.create
  split
  · exact h.ready.mono (by omega)
  · split
    · exact h.ready.mono (by omega)
    · split
      · exact h.ready.mono (by omega)
      · refine Fit.chg (M := { M.ready.2 with files := M.ready.2.files ++ [MFile.mk [] 0] }) ⟨h.ready.left, ?_, h.ready.changes⟩ _
        have := h.ready.total
        unfold MDisk.total at *
        simp only [ms_append, ms_cons, ms_nil]
        simpa using this
theorem Fit.remove {M : MDisk} {n : Nat} (h : M.Fit n) (s : ByteArray) : (M.remove s).2.Fit (n + 1) := by
  unfold MDisk.remove
  rcases find_cases M s with ⟨e, _, hf⟩ | ⟨i, hf, _⟩
  · rw [hf]; exact h.ready.mono (by omega)
  · rw [hf]; exact h.ready.chg _
theorem Fit.rename {M : MDisk} {n : Nat} (h : M.Fit n) (s t : ByteArray) : (M.rename s t).2.Fit (n + 1) := by
  unfold MDisk.rename
  rcases find_cases M s with ⟨e, _, hf⟩ | ⟨i, hf, _⟩
  · rw [hf]; exact h.ready.mono (by omega)
  · rw [hf]
    dsimp only
    split
    · exact h.ready.mono (by omega)
    · exact h.ready.chg _
theorem Fit.append {M : MDisk} {n : Nat} (h : M.Fit n) (s : ByteArray) (b : List UInt8) : (M.append s b).2.Fit (n + b.length) := by
  unfold MDisk.append
  rcases find_cases M s with ⟨e, _, hf⟩ | ⟨i, hf, _⟩
  · rw [hf]; exact h.ready.mono (by omega)
  · rw [hf]
    dsimp only
    split
    · exact h.ready.mono (by omega)
    · exact h.ready.set _ _ _ fun f => by simp
theorem Fit.sync {M : MDisk} {n : Nat} (h : M.Fit n) (s : ByteArray) : (M.sync s).2.Fit n := by
  unfold MDisk.sync
  rcases find_cases M s with ⟨e, _, hf⟩ | ⟨i, hf, _⟩
  · rw [hf]; exact h.ready
  · rw [hf]; exact (h.ready.set i 0 _ fun f => by simp)
theorem Fit.syncNames {M : MDisk} {n : Nat} (h : M.Fit n) : M.syncNames.2.Fit n := by
  unfold MDisk.syncNames
  split
  · exact h.ready
  · exact ⟨h.ready.left, h.ready.total, Nat.zero_le _⟩
theorem read_st (M : MDisk) (s : ByteArray) : (M.read s).2.2 = M.ready.2 := by
  unfold MDisk.read
  rcases find_cases M s with ⟨e, _, hf⟩ | ⟨i, hf, _⟩ <;> rw [hf]
theorem Fit.read {M : MDisk} {n : Nat} (h : M.Fit n) (s : ByteArray) : (M.read s).2.2.Fit n := by
  rw [read_st]
  exact h.ready
theorem Fit.files {M : MDisk} {n : Nat} (h : M.Fit n) : ∀ f ∈ M.files, f.bytes.length ≤ n := fun f hf => Nat.le_trans (ms_pos (f := fun f : MFile => f.bytes.length) hf) h.total
end MDisk

/-! ### A run's writer -/
def rises (o : Option (List UInt8)) (x : List UInt8) : Bool := match o with
  | none => true
  | some l => decide (Lib.compareBytes l x < 0)

def way : ByteArray := ⟨#[116, 109, 112]⟩

structure MWr where
  ord : Option (List UInt8)
  many : Nat

def startM (M : MDisk) : Int × MDisk :=
  if (M.remove way).1 ≠ 0 ∧ (M.remove way).1 ≠ 2 then M.remove way else (M.remove way).2.create way

end Go.Proofs.Ytonjaaljnjjjcaa

set_option linter.unusedVariables false
set_option linter.unusedSimpArgs false
namespace Go.Proofs.Ytonjaaljnjjjcaa
open Go

/-- No name is empty. -/
def NoEmpty (nm : Names) : Prop := ∀ x ∈ nm, x.1 ≠ noName

theorem delN_mem {k : ByteArray} : ∀ {nm : Names} {x : ByteArray × Nat}, x ∈ delN k nm → x ∈ nm := fun h => (delN_sub _ _).subset h
theorem delN_none {k : ByteArray} : ∀ {nm : Names}, (∀ x ∈ nm, x.1 ≠ k) → delN k nm = nm
  | [], _ => rfl
  | x :: nm, h => by
    unfold delN
    rw [if_neg (h x List.mem_cons_self), delN_none fun y hy => h y (List.mem_cons_of_mem _ hy)]
theorem findN_none_of {k : ByteArray} : ∀ {nm : Names}, (∀ x ∈ nm, x.1 ≠ k) → findN k nm = none
  | [], _ => rfl
  | x :: nm, h => by
    unfold findN
    rw [if_neg (h x List.mem_cons_self), findN_none_of fun y hy => h y (List.mem_cons_of_mem _ hy)]

/-- A change fits names that it is done to. -/
def Fits (nm : Names) (c : MChange) : Prop :=
  (c.gone = noName ∧ c.new ≠ noName) ∨ (c.gone ≠ noName ∧ ∃ i, findN c.gone nm = some i ∧ (c.new ≠ noName → c.file = i))

/-- Each change fits the names ahead of it. -/
def FitsAll : Names → List MChange → Prop
  | _, [] => True
  | nm, c :: l => Fits nm c ∧ FitsAll (doN nm c) l

theorem fitsAll_append : ∀ {l : List MChange} {nm : Names} {c : MChange}, FitsAll nm l → Fits (l.foldl doN nm) c → FitsAll nm (l ++ [c])
  | [], _, _, _, h => ⟨h, trivial⟩
  | x :: l, nm, c, h, hc => ⟨h.1, fitsAll_append (l := l) h.2 hc⟩

theorem doN_noEmpty {nm : Names} (h : NoEmpty nm) (c : MChange) : NoEmpty (doN nm c) := by
  unfold doN
  split
  · exact fun x hx => h x (delN_mem hx)
  · rename_i hn
    intro x hx
    rcases (insN_mem _ _ _ _).1 hx with rfl | hx
    · exact hn
    · exact h x (delN_mem (delN_mem hx))

/-- Whose numbers are below n. -/
def Below_ (n : Nat) (nm : Names) : Prop := ∀ x ∈ nm, x.2 < n
theorem doN_below {n : Nat} {nm : Names} (h : Below_ n nm) {c : MChange} (hc : c.new ≠ noName → c.file < n) : Below_ n (doN nm c) := by
  unfold doN
  split
  · exact fun x hx => h x (delN_mem hx)
  · rename_i hn
    intro x hx
    rcases (insN_mem _ _ _ _).1 hx with rfl | hx
    · exact hc hn
    · exact h x (delN_mem (delN_mem hx))

theorem foldl_sorted : ∀ (l : List MChange) {nm : Names}, SortedN nm → SortedN (l.foldl doN nm)
  | [], _, h => h
  | c :: l, _, h => foldl_sorted l (doN_sorted h c)
theorem foldl_noEmpty : ∀ (l : List MChange) {nm : Names}, NoEmpty nm → NoEmpty (l.foldl doN nm)
  | [], _, h => h
  | c :: l, _, h => foldl_noEmpty l (doN_noEmpty h c)
theorem foldl_below {n : Nat} : ∀ (l : List MChange) {nm : Names}, Below_ n nm → (∀ c ∈ l, c.new ≠ noName → c.file < n) → Below_ n (l.foldl doN nm)
  | [], _, h, _ => h
  | c :: l, _, h, hc => foldl_below l (doN_below h (hc c List.mem_cons_self)) fun c' hc' => hc c' (List.mem_cons_of_mem _ hc')

/-- What stays true of a disk. -/
structure MDisk.Good (M : MDisk) : Prop where
  sortK : SortedN M.kept
  empty : NoEmpty M.kept
  fits : FitsAll M.kept M.changes
  now : M.now = M.changes.foldl doN M.kept
  keptB : Below_ M.files.length M.kept
  chB : ∀ c ∈ M.changes, c.new ≠ noName → c.file < M.files.length
  keptF : ∀ f ∈ M.files, f.kept ≤ f.bytes.length

namespace MDisk
theorem Good.sortN {M : MDisk} (h : M.Good) : SortedN M.now := by rw [h.now]; exact foldl_sorted _ h.sortK
theorem Good.emptyN {M : MDisk} (h : M.Good) : NoEmpty M.now := by rw [h.now]; exact foldl_noEmpty _ h.empty
theorem Good.nowB {M : MDisk} (h : M.Good) : Below_ M.files.length M.now := by rw [h.now]; exact foldl_below _ h.keptB h.chB

theorem Good.same {M M' : MDisk} (h : M.Good) (h1 : M'.files = M.files) (h2 : M'.now = M.now) (h3 : M'.kept = M.kept) (h4 : M'.changes = M.changes) : M'.Good :=
  ⟨h3 ▸ h.sortK, h3 ▸ h.empty, by rw [h3, h4]; exact h.fits, by rw [h2, h3, h4]; exact h.now, by rw [h1, h3]; exact h.keptB, by rw [h1, h4]; exact h.chB, by rw [h1]; exact h.keptF⟩

theorem good_new (room : Int) : (MDisk.new room).Good :=
  ⟨List.Pairwise.nil, (fun x hx => by cases hx), trivial, rfl, (fun x hx => by cases hx), (fun x hx => by cases hx), (fun x hx => by cases hx)⟩

theorem Good.ready {M : MDisk} (h : M.Good) : M.ready.2.Good := by
  obtain ⟨h1, h2, h3, h4, _⟩ := ready_same M
  exact h.same h1 h2 h3 h4

theorem Good.chg {M : MDisk} (h : M.Good) {c : MChange} (hf : Fits M.now c) (hc : c.new ≠ noName → c.file < M.files.length) : (M.chg c).Good :=
  ⟨h.sortK, h.empty, fitsAll_append h.fits (by show Fits (M.changes.foldl doN M.kept) c; rw [← h.now]; exact hf), by
    show doN M.now c = (M.changes ++ [c]).foldl doN M.kept
    rw [List.foldl_append, ← h.now]
    rfl, h.keptB, fun x hx => by
    rcases List.mem_append.1 hx with hx | hx
    · exact h.chB x hx
    · rw [List.mem_singleton] at hx
      subst hx
      exact hc, h.keptF⟩

theorem Good.grown {M : MDisk} (h : M.Good) : ({ M with files := M.files ++ [MFile.mk [] 0] } : MDisk).Good :=
  ⟨h.sortK, h.empty, h.fits, h.now, fun x hx => by have := h.keptB x hx; simp; omega, fun c hc hn => by have := h.chB c hc hn; simp; omega, fun f hf => by
    rcases List.mem_append.1 hf with hf | hf
    · exact h.keptF f hf
    · rw [List.mem_singleton] at hf
      subst hf
      exact Nat.le_refl _⟩

theorem Good.set {M : MDisk} (h : M.Good) (i : Nat) (g : MFile → MFile) (hg : ∀ f, f.kept ≤ f.bytes.length → (g f).kept ≤ (g f).bytes.length) : (M.setFile i g).Good :=
  ⟨h.sortK, h.empty, h.fits, h.now, fun x hx => by have := h.keptB x hx; simpa [setFile] using this, fun c hc hn => by have := h.chB c hc hn; simpa [setFile] using this, by
    have key : ∀ (l : List MFile) (i : Nat), (∀ f ∈ l, f.kept ≤ f.bytes.length) → ∀ f ∈ l.modify i g, f.kept ≤ f.bytes.length := by
      intro l
      induction l with
      | nil => intro i _ f hf; cases i <;> simp at hf
      | cons x l ih =>
        intro i hl f hf
        cases i with
        | zero =>
          simp at hf
          rcases hf with rfl | hf
          · exact hg x (hl x List.mem_cons_self)
          · exact hl f (List.mem_cons_of_mem _ hf)
        | succ i =>
          simp at hf
          rcases hf with rfl | hf
          · exact hl _ List.mem_cons_self
          · exact ih i (fun y hy => hl y (List.mem_cons_of_mem _ hy)) f hf
    exact key M.files i h.keptF⟩

theorem right_ne {n : ByteArray} (h : right n = true) : n ≠ noName := by
  intro e
  subst e
  exact absurd h (by decide)

theorem Good.create {M : MDisk} (h : M.Good) (n : ByteArray) : (M.create n).2.Good := by
  unfold MDisk.create
  split
  · exact h.ready
  · split
    · exact h.ready
    · rename_i hr
      have hr : right n = true := by simpa using hr
      split
      · exact h.ready
      · refine Good.chg (M := { M.ready.2 with files := M.ready.2.files ++ [MFile.mk [] 0] }) h.ready.grown (.inl ⟨rfl, right_ne hr⟩) fun _ => ?_
        simp
theorem Good.remove {M : MDisk} (h : M.Good) (n : ByteArray) : (M.remove n).2.Good := by
  unfold MDisk.remove
  rcases find_cases M n with ⟨e, _, hf⟩ | ⟨i, hf, hi⟩
  · rw [hf]; exact h.ready
  · rw [hf]
    have hne : n ≠ noName := h.ready.emptyN _ (mem_of_findN hi)
    exact h.ready.chg (.inr ⟨hne, i, hi, fun hn => absurd rfl hn⟩) fun hn => absurd rfl hn
theorem Good.rename {M : MDisk} (h : M.Good) (a b : ByteArray) : (M.rename a b).2.Good := by
  unfold MDisk.rename
  rcases find_cases M a with ⟨e, _, hf⟩ | ⟨i, hf, hi⟩
  · rw [hf]; exact h.ready
  · rw [hf]
    dsimp only
    split
    · exact h.ready
    · have hm := mem_of_findN hi
      exact h.ready.chg (.inr ⟨h.ready.emptyN _ hm, i, hi, fun _ => rfl⟩) fun _ => h.ready.nowB _ hm
theorem Good.append {M : MDisk} (h : M.Good) (n : ByteArray) (b : List UInt8) : (M.append n b).2.Good := by
  unfold MDisk.append
  rcases find_cases M n with ⟨e, _, hf⟩ | ⟨i, hf, _⟩
  · rw [hf]; exact h.ready
  · rw [hf]
    dsimp only
    split
    · exact h.ready
    · exact h.ready.set _ _ fun f hf => by simp; omega
theorem Good.sync {M : MDisk} (h : M.Good) (n : ByteArray) : (M.sync n).2.Good := by
  unfold MDisk.sync
  rcases find_cases M n with ⟨e, _, hf⟩ | ⟨i, hf, _⟩
  · rw [hf]; exact h.ready
  · rw [hf]; exact h.ready.set _ _ fun f hf => Nat.le_refl _
theorem Good.read {M : MDisk} (h : M.Good) (n : ByteArray) : (M.read n).2.2.Good := by
  rw [read_st]
  exact h.ready
theorem Good.syncNames {M : MDisk} (h : M.Good) : M.syncNames.2.Good := by
  unfold MDisk.syncNames
  split
  · exact h.ready
  · exact ⟨h.ready.sortN, h.ready.emptyN, trivial, rfl, h.ready.nowB, (fun c hc => by cases hc), h.ready.keptF⟩
theorem names_st (M : MDisk) : M.names.2.2 = M.ready.2 := by
  unfold MDisk.names
  split <;> rfl
theorem Good.names {M : MDisk} (h : M.Good) : M.names.2.2.Good := by
  rw [names_st]
  exact h.ready
theorem Good.doom {M : MDisk} (h : M.Good) (n : Int) : (M.doom n).2.Good := by
  unfold MDisk.doom
  split
  · exact h
  · exact h.same rfl rfl rfl rfl
theorem Good.grow {M : MDisk} (h : M.Good) (n : Int) : (M.grow n).2.Good := by
  unfold MDisk.grow
  split
  · exact h
  · exact h.same rfl rfl rfl rfl

/-! ### A crash -/
/-- The names that are left. -/
def left_ (M : MDisk) (names : Int) : Names := (M.changes.take names.toNat).foldl doN M.kept
theorem Good.leftS {M : MDisk} (h : M.Good) (n : Int) : SortedN (M.left_ n) := foldl_sorted _ h.sortK
theorem Good.leftE {M : MDisk} (h : M.Good) (n : Int) : NoEmpty (M.left_ n) := foldl_noEmpty _ h.empty
theorem Good.leftB {M : MDisk} (h : M.Good) (n : Int) : Below_ M.files.length (M.left_ n) := foldl_below _ h.keptB fun c hc => h.chB c (List.mem_of_mem_take hc)

theorem numbered_fst : ∀ (nm : Names) (i : Nat), (numbered i nm).map (·.1) = nm.map (·.1)
  | [], _ => rfl
  | x :: nm, i => by simp [numbered, numbered_fst nm (i + 1)]
theorem numbered_get : ∀ (nm : Names) (i j : Nat) (x : ByteArray × Nat), (numbered i nm)[j]? = some x → x.2 = i + j ∧ ∃ y, nm[j]? = some y ∧ y.1 = x.1
  | [], i, j, x, h => by simp [numbered] at h
  | y :: nm, i, 0, x, h => by
    simp [numbered] at h
    subst h
    exact ⟨rfl, y, rfl, rfl⟩
  | y :: nm, i, j + 1, x, h => by
    obtain ⟨h1, h2⟩ := numbered_get nm (i + 1) j x (by simpa [numbered] using h)
    exact ⟨by omega, by simpa using h2⟩
theorem numbered_len (nm : Names) (i : Nat) : (numbered i nm).length = nm.length := by
  have := congrArg List.length (numbered_fst nm i)
  simpa using this
theorem numbered_sorted {nm : Names} (h : SortedN nm) (i : Nat) : SortedN (numbered i nm) := by
  have h1 : (nm.map (·.1)).Pairwise nlt := List.pairwise_map.2 h
  rw [← numbered_fst nm i] at h1
  exact List.pairwise_map.1 h1
theorem crashed_len (M : MDisk) (ns : List Int) : ∀ (nm : Names) (i : Nat), (M.crashed ns i nm).length = nm.length
  | [], _ => rfl
  | x :: nm, i => by simp [crashed, crashed_len M ns nm (i + 1)]
theorem leftOf_le (ns : List Int) (i most : Nat) : leftOf ns i most ≤ most := by
  unfold leftOf
  split
  · exact Nat.zero_le _
  · exact Nat.min_le_right _ _
theorem Good.fileAt {M : MDisk} (h : M.Good) (i : Nat) : (M.fileAt i).kept ≤ (M.fileAt i).bytes.length := by
  unfold MDisk.fileAt
  rw [List.getD_eq_getElem?_getD]
  cases hf : M.files[i]? with
  | none => exact Nat.le_refl _
  | some f => exact h.keptF f (List.mem_of_getElem? hf)
theorem Good.crashed {M : MDisk} (h : M.Good) (ns : List Int) : ∀ (nm : Names) (i : Nat), ∀ f ∈ M.crashed ns i nm, f.kept ≤ f.bytes.length
  | [], _, f, hf => by cases hf
  | x :: nm, i, f, hf => by
    unfold MDisk.crashed at hf
    rcases List.mem_cons.1 hf with rfl | hf
    · have h1 := h.fileAt x.2
      have h2 := leftOf_le ns i ((M.fileAt x.2).bytes.length - (M.fileAt x.2).kept)
      simp only [List.length_take]
      omega
    · exact h.crashed ns nm (i + 1) f hf
theorem Good.crash {M : MDisk} (h : M.Good) (n : Int) (ns : List Int) : (M.crash n ns).Good := by
  have hb : Below_ (M.crashed ns 0 (M.left_ n)).length (numbered 0 (M.left_ n)) := fun x hx => by
    obtain ⟨j, hj⟩ := List.getElem?_of_mem hx
    obtain ⟨h1, y, h2, _⟩ := numbered_get _ _ _ _ hj
    rw [crashed_len, h1]
    have := (List.getElem?_eq_some_iff.1 h2).1
    omega
  have he : NoEmpty (numbered 0 (M.left_ n)) := fun x hx => by
    obtain ⟨j, hj⟩ := List.getElem?_of_mem hx
    obtain ⟨_, y, h2, h3⟩ := numbered_get _ _ _ _ hj
    rw [← h3]
    exact h.leftE n y (List.mem_of_getElem? h2)
  exact ⟨numbered_sorted (h.leftS n) 0, he, trivial, rfl, hb, (fun c hc => by cases hc), h.crashed ns _ 0⟩
end MDisk

/-! ### How big it gets -/
/-- It has no more names, files and changes than n, none of its files is longer than b. -/
structure MDisk.Small (M : MDisk) (n b : Nat) : Prop where
  left : M.left ≤ 9223372036854775807
  names : M.kept.length + M.changes.length ≤ n
  files : M.files.length ≤ n
  each : ∀ f ∈ M.files, f.bytes.length ≤ b

theorem insN_len (k : ByteArray) (f : Nat) : ∀ nm : Names, (insN k f nm).length = nm.length + 1
  | [] => rfl
  | x :: nm => by
    unfold insN
    split
    · rfl
    · simp [insN_len k f nm]
theorem delN_len (k : ByteArray) (nm : Names) : (delN k nm).length ≤ nm.length := (delN_sub k nm).length_le
theorem doN_len (nm : Names) (c : MChange) : (doN nm c).length ≤ nm.length + 1 := by
  unfold doN
  split
  · have := delN_len c.gone nm; omega
  · rw [insN_len]
    have h1 := delN_len c.gone nm
    have h2 := delN_len c.new (delN c.gone nm)
    omega
theorem foldl_len : ∀ (l : List MChange) (nm : Names), (l.foldl doN nm).length ≤ nm.length + l.length
  | [], _ => Nat.le_refl _
  | c :: l, nm => by
    have h1 := foldl_len l (doN nm c)
    have h2 := doN_len nm c
    rw [List.foldl_cons, List.length_cons]
    omega

theorem ms_le {f : MFile → Nat} {b : Nat} : ∀ l : List MFile, (∀ x ∈ l, f x ≤ b) → ms f l ≤ l.length * b
  | [], _ => by simp [ms]
  | x :: l, h => by
    have h1 := h x List.mem_cons_self
    have h2 := ms_le l fun y hy => h y (List.mem_cons_of_mem _ hy)
    rw [List.length_cons, Nat.succ_mul]
    simp only [ms]
    omega

namespace MDisk
theorem Small.total {M : MDisk} {n b : Nat} (h : M.Small n b) : M.total ≤ n * b := Nat.le_trans (ms_le M.files h.each) (Nat.mul_le_mul_right _ h.files)
theorem Small.mono {M : MDisk} {n b n' b' : Nat} (h : M.Small n b) (h1 : n ≤ n') (h2 : b ≤ b') : M.Small n' b' := ⟨h.left, Nat.le_trans h.names h1, Nat.le_trans h.files h1, fun f hf => Nat.le_trans (h.each f hf) h2⟩
theorem small_new (room : Int) : (MDisk.new room).Small 0 0 := ⟨Nat.zero_le _, Nat.le_refl _, Nat.le_refl _, by simp [MDisk.new]⟩
theorem Small.ready {M : MDisk} {n b : Nat} (h : M.Small n b) : M.ready.2.Small n b := by
  obtain ⟨h1, _, h3, h4, _⟩ := ready_same M
  refine ⟨?_, by rw [h3, h4]; exact h.names, by rw [h1]; exact h.files, by rw [h1]; exact h.each⟩
  have := h.left
  unfold MDisk.ready
  split
  · exact this
  · split
    · split
      · exact this
      · show M.left - 1 ≤ _; omega
    · exact this
theorem Small.chg {M : MDisk} {n b : Nat} (h : M.Small n b) (c : MChange) : (M.chg c).Small (n + 1) b :=
  ⟨h.left, by have := h.names; simp [MDisk.chg]; omega, Nat.le_trans h.files (by omega), h.each⟩
theorem Small.create {M : MDisk} {n b : Nat} (h : M.Small n b) (s : ByteArray) : (M.create s).2.Small (n + 1) b := by
  unfold MDisk.create
  split
  · exact h.ready.mono (by omega) (Nat.le_refl _)
  · split
    · exact h.ready.mono (by omega) (Nat.le_refl _)
    · split
      · exact h.ready.mono (by omega) (Nat.le_refl _)
      · refine ⟨h.ready.left, by have := h.ready.names; simp [MDisk.chg]; omega, by have := h.ready.files; simp [MDisk.chg]; omega, fun f hf => ?_⟩
        have hf : f ∈ M.ready.2.files ++ [MFile.mk [] 0] := hf
        rcases List.mem_append.1 hf with hf | hf
        · exact h.ready.each f hf
        · rw [List.mem_singleton] at hf
          subst hf
          exact Nat.zero_le _
theorem Small.remove {M : MDisk} {n b : Nat} (h : M.Small n b) (s : ByteArray) : (M.remove s).2.Small (n + 1) b := by
  unfold MDisk.remove
  rcases find_cases M s with ⟨e, _, hf⟩ | ⟨i, hf, _⟩
  · rw [hf]; exact h.ready.mono (by omega) (Nat.le_refl _)
  · rw [hf]; exact h.ready.chg _
theorem Small.rename {M : MDisk} {n b : Nat} (h : M.Small n b) (s t : ByteArray) : (M.rename s t).2.Small (n + 1) b := by
  unfold MDisk.rename
  rcases find_cases M s with ⟨e, _, hf⟩ | ⟨i, hf, _⟩
  · rw [hf]; exact h.ready.mono (by omega) (Nat.le_refl _)
  · rw [hf]
    dsimp only
    split
    · exact h.ready.mono (by omega) (Nat.le_refl _)
    · exact h.ready.chg _
theorem Small.set {M : MDisk} {n b k : Nat} (h : M.Small n b) (i : Nat) (g : MFile → MFile) (hg : ∀ f, (g f).bytes.length ≤ f.bytes.length + k) : (M.setFile i g).Small n (b + k) :=
  ⟨h.left, h.names, by simpa [setFile] using h.files, by
    have key : ∀ (l : List MFile) (i : Nat), (∀ f ∈ l, f.bytes.length ≤ b) → ∀ f ∈ l.modify i g, f.bytes.length ≤ b + k := by
      intro l
      induction l with
      | nil => intro i _ f hf; cases i <;> simp at hf
      | cons x l ih =>
        intro i hl f hf
        cases i with
        | zero =>
          simp at hf
          rcases hf with rfl | hf
          · have h1 := hg x
            have h2 := hl x List.mem_cons_self
            omega
          · have := hl f (List.mem_cons_of_mem _ hf)
            omega
        | succ i =>
          simp at hf
          rcases hf with rfl | hf
          · have := hl _ List.mem_cons_self
            omega
          · exact ih i (fun y hy => hl y (List.mem_cons_of_mem _ hy)) f hf
    exact key M.files i h.each⟩
theorem Small.append {M : MDisk} {n b : Nat} (h : M.Small n b) (s : ByteArray) (c : List UInt8) : (M.append s c).2.Small n (b + c.length) := by
  unfold MDisk.append
  rcases find_cases M s with ⟨e, _, hf⟩ | ⟨i, hf, _⟩
  · rw [hf]; exact h.ready.mono (Nat.le_refl _) (by omega)
  · rw [hf]
    dsimp only
    split
    · exact h.ready.mono (Nat.le_refl _) (by omega)
    · exact h.ready.set _ _ fun f => by simp
theorem Small.sync {M : MDisk} {n b : Nat} (h : M.Small n b) (s : ByteArray) : (M.sync s).2.Small n b := by
  unfold MDisk.sync
  rcases find_cases M s with ⟨e, _, hf⟩ | ⟨i, hf, _⟩
  · rw [hf]; exact h.ready
  · rw [hf]; exact h.ready.set (k := 0) i _ fun f => by simp
theorem Small.read {M : MDisk} {n b : Nat} (h : M.Small n b) (s : ByteArray) : (M.read s).2.2.Small n b := by
  rw [read_st]
  exact h.ready
theorem Small.names' {M : MDisk} {n b : Nat} (h : M.Small n b) : M.names.2.2.Small n b := by
  rw [names_st]
  exact h.ready
theorem Small.syncNames {M : MDisk} {n b : Nat} (h : M.Small n b) (hg : M.Good) : M.syncNames.2.Small n b := by
  unfold MDisk.syncNames
  split
  · exact h.ready
  · refine ⟨h.ready.left, ?_, h.ready.files, h.ready.each⟩
    have h1 := foldl_len M.ready.2.changes M.ready.2.kept
    rw [← hg.ready.now] at h1
    have := h.ready.names
    simp only [List.length_nil]
    omega
theorem Small.doom {M : MDisk} {n b : Nat} (h : M.Small n b) {k : Int} (hk : k ≤ 9223372036854775807) : (M.doom k).2.Small n b := by
  unfold MDisk.doom
  split
  · exact h
  · exact ⟨by show k.toNat ≤ _; omega, h.names, h.files, h.each⟩
theorem Small.grow {M : MDisk} {n b : Nat} (h : M.Small n b) (k : Int) : (M.grow k).2.Small n b := by
  unfold MDisk.grow
  split
  · exact h
  · exact ⟨h.left, h.names, h.files, h.each⟩
theorem crashed_each {M : MDisk} {n b : Nat} (h : M.Small n b) (ns : List Int) : ∀ (nm : Names) (i : Nat), ∀ f ∈ M.crashed ns i nm, f.bytes.length ≤ b
  | [], _, f, hf => by cases hf
  | x :: nm, i, f, hf => by
    unfold MDisk.crashed at hf
    rcases List.mem_cons.1 hf with rfl | hf
    · simp only [List.length_take]
      have : (M.fileAt x.2).bytes.length ≤ b := by
        unfold MDisk.fileAt
        rw [List.getD_eq_getElem?_getD]
        cases hf : M.files[x.2]? with
        | none => exact Nat.zero_le _
        | some f => exact h.each f (List.mem_of_getElem? hf)
      omega
    · exact crashed_each h ns nm (i + 1) f hf
theorem left_len (M : MDisk) (k : Int) : (M.left_ k).length ≤ M.kept.length + M.changes.length := by
  have h1 := foldl_len (M.changes.take k.toNat) M.kept
  have h2 : (M.changes.take k.toNat).length ≤ M.changes.length := by rw [List.length_take]; omega
  unfold left_
  omega
theorem Small.crash {M : MDisk} {n b : Nat} (h : M.Small n b) (k : Int) (ns : List Int) : (M.crash k ns).Small n b := by
  have hl := left_len M k
  have hn := h.names
  refine ⟨Nat.zero_le _, ?_, ?_, crashed_each h ns _ 0⟩
  · show (numbered 0 (M.left_ k)).length + 0 ≤ n
    rw [numbered_len]
    omega
  · show (M.crashed ns 0 (M.left_ k)).length ≤ n
    rw [crashed_len]
    omega
end MDisk

end Go.Proofs.Ytonjaaljnjjjcaa
