/- What 'vc' of these functions comes to, and their calls by it. Printed by dec.py. -/
import Derived.OrdersHeld
import Derived.Tactics
import Derived.Defers
import Derived.RangeFuncRecord
import Derived.WalkKit
import Derived.OrdersIn
import Derived.Deep.LoopGhost
import Derived.Test.YtonjaaljnjjjcaaChecked
import Derived.KernelRfl
/- A weakest-precondition reading of the model's code as plain logic: 'vc', and its soundness. Conditions: none. -/
set_option linter.unusedVariables false
set_option linter.unusedSimpArgs false
namespace Go.Proofs.Ytonjaaljnjjjcaa
open Go

/-- What the temporaries hold. -/
abbrev Env := Nat → Value

def upd (ρ : Env) (d : Nat) (v : Value) : Env := fun i => match Nat.beq i d with
  | true => v
  | false => ρ i

def updO (ρ : Env) (d : Option Nat) (v : Value) : Env := match d with
  | some d => upd ρ d v
  | none => ρ

def ev (ρ : Env) : Operand → Value
  | .tmp t => ρ t
  | .const v => v
  | .global g => .pointer (some ⟨g, 0, none⟩)
  | .func f => .func (.func f) #[] #[]

def brc (t : Bool) (A B : Prop) : Prop := match t with
  | true => A
  | false => B

theorem brc_intro {t : Bool} {A B : Prop} (ha : t = true → A) (hb : t = false → B) : brc t A B := by
  cases t
  · exact hb rfl
  · exact ha rfl
theorem brc_true {t : Bool} {A B : Prop} (h : t = true) (ha : A) : brc t A B := by subst h; exact ha
theorem brc_false {t : Bool} {A B : Prop} (h : t = false) (hb : B) : brc t A B := by subst h; exact hb

def optK {α : Type} (p : Option α) (K : α → Prop) : Prop := match p with
  | some a => K a
  | none => False

/-- A slice's value. -/
structure SV where
  a : Option Addr
  len : Nat
  cap : Nat
def SV.v (s : SV) : Value := .slice s.a s.len s.cap

/-- A function's value. -/
structure FV where
  f : Fn
  a : Array Value
  b : Array Value

/-- How a value is read: in one world, or in every world of a class. -/
abbrev Rd := Sem Value → Value → Prop
def At (P : Program) (w : World) : Rd := fun m v => m.run P w = .ok v w
def AtS (P : Program) (S : World → Prop) : Rd := fun m v => ∀ w, S w → m.run P w = .ok v w

def exLeaf (d : TypeDesc) (K : Value → Prop) : Prop := match d with
  | .bool => ∃ b, K (.bool b)
  | .int k => ∃ n, K (.int k n)
  | .string => ∃ s, K (.string s)
  | .pointer _ => ∃ a, K (.pointer a)
  | .slice _ => ∃ s : SV, K (.slice s.a s.len s.cap)
  | .map _ _ => ∃ r, K (.map r)
  | .func _ _ _ => ∃ x : FV, K (.func x.f x.a x.b)
  | _ => ∃ v, K v

mutual
def exCells (P : Program) : Nat → TypeId → (List Value → Prop) → Prop
  | 0, _, _ => False
  | n + 1, t, K => match P.underlying t with
    | some (.struct fs) => exFields P n fs.toList K
    | some (.array _ _) => ∃ cs : Array Value, K cs.toList
    | some d => exLeaf d fun v => K [v]
    | none => False
def exFields (P : Program) : Nat → List Field → (List Value → Prop) → Prop
  | 0, _, _ => False
  | _ + 1, [], K => K []
  | n + 1, f :: fs, K => exCells P n f.type fun a => exFields P n fs fun b => K (a ++ b)
end

def exTy (P : Program) (t : TypeId) (K : Value → Prop) : Prop := match P.underlying t with
  | some (.struct fs) => exFields P 40 fs.toList fun l => K (.agg l.toArray)
  | some (.array _ _) => ∃ cs : Array Value, K (.agg cs)
  | some d => exLeaf d K
  | none => False

def exTys (P : Program) : List TypeId → (List Value → Prop) → Prop
  | [], K => K []
  | t :: ts, K => exTy P t fun v => exTys P ts fun vs => K (v :: vs)

def exRes (P : Program) (f : FuncId) (K : Value → Prop) : Prop := match P.funcs[f]? with
  | some fn => match fn.resultTypes.toList with
    | [] => K (.tuple #[])
    | [t] => exTy P t K
    | ts => exTys P ts fun vs => K (.tuple vs.toArray)
  | none => False

theorem exLeaf_ex {d : TypeDesc} {K : Value → Prop} (h : exLeaf d K) : ∃ v, K v := by
  unfold exLeaf at h
  split at h
  all_goals (obtain ⟨b, h⟩ := h; exact ⟨_, h⟩)

mutual
theorem exCells_ex {P : Program} : ∀ (n : Nat) (t : TypeId) (K : List Value → Prop), exCells P n t K → ∃ l, K l
  | 0, _, _, h => by simp [exCells] at h
  | n + 1, t, K, h => by
    unfold exCells at h
    split at h
    · exact exFields_ex n _ K h
    · obtain ⟨cs, h⟩ := h; exact ⟨_, h⟩
    · obtain ⟨v, h⟩ := exLeaf_ex h; exact ⟨_, h⟩
    · exact h.elim
theorem exFields_ex {P : Program} : ∀ (n : Nat) (fs : List Field) (K : List Value → Prop), exFields P n fs K → ∃ l, K l
  | 0, _, _, h => by simp [exFields] at h
  | _ + 1, [], K, h => by simp [exFields] at h; exact ⟨_, h⟩
  | n + 1, f :: fs, K, h => by
    simp only [exFields] at h
    obtain ⟨a, h⟩ := exCells_ex n f.type _ h
    obtain ⟨b, h⟩ := exFields_ex n fs _ h
    exact ⟨_, h⟩
end

theorem exTy_ex {P : Program} {t : TypeId} {K : Value → Prop} (h : exTy P t K) : ∃ v, K v := by
  unfold exTy at h
  split at h
  · obtain ⟨v, h⟩ := exFields_ex _ _ _ h; exact ⟨_, h⟩
  · obtain ⟨cs, h⟩ := h; exact ⟨_, h⟩
  · exact exLeaf_ex h
  · exact h.elim

theorem exTys_ex {P : Program} : ∀ (ts : List TypeId) (K : List Value → Prop), exTys P ts K → ∃ l, K l
  | [], K, h => ⟨_, h⟩
  | t :: ts, K, h => by
    simp only [exTys] at h
    obtain ⟨v, h⟩ := exTy_ex h
    obtain ⟨l, h⟩ := exTys_ex ts _ h
    exact ⟨_, h⟩

theorem exRes_ex {P : Program} {f : FuncId} {K : Value → Prop} (h : exRes P f K) : ∃ v, K v := by
  unfold exRes at h
  split at h
  · split at h
    · exact ⟨_, h⟩
    · exact exTy_ex h
    · obtain ⟨l, h⟩ := exTys_ex _ _ h; exact ⟨_, h⟩
  · exact h.elim

def kEq (k k' : IntKind) (A : Prop) : Prop := match decEq k k' with
  | isTrue _ => A
  | isFalse _ => False

theorem kEq_of {k k' : IntKind} {A : Prop} (h : kEq k k' A) : k = k' ∧ A := by
  unfold kEq at h
  split at h
  · rename_i e _; exact ⟨e, h⟩
  · exact h.elim

/-- A binary operation on plain values; all else by 'E'. -/
def binV (P : Program) (op : BinOp) (t : TypeId) (x y : Value) (E : Prop) (K : Value → Prop) : Prop :=
  match op, x, y with
  | .shl, .int k a, .int _ b => 0 ≤ b ∧ K (.int k (k.wrap (a * 2 ^ min b.toNat k.bits)))
  | .shr, .int k a, .int _ b => 0 ≤ b ∧ K (.int k (a.fdiv (2 ^ min b.toNat k.bits)))
  | .add, .int k a, .int k' b => kEq k k' (K (.int k (k.wrap (a + b))))
  | .sub, .int k a, .int k' b => kEq k k' (K (.int k (k.wrap (a - b))))
  | .mul, .int k a, .int k' b => kEq k k' (K (.int k (k.wrap (a * b))))
  | .quo, .int k a, .int k' b => kEq k k' (b ≠ 0 ∧ K (.int k (k.wrap (a.tdiv b))))
  | .rem, .int k a, .int k' b => kEq k k' (b ≠ 0 ∧ K (.int k (a.tmod b)))
  | .and, .int k a, .int k' b => kEq k k' (K (.int k (k.wrap (BitVec.ofInt k.bits a &&& BitVec.ofInt k.bits b).toNat)))
  | .or, .int k a, .int k' b => kEq k k' (K (.int k (k.wrap (BitVec.ofInt k.bits a ||| BitVec.ofInt k.bits b).toNat)))
  | .xor, .int k a, .int k' b => kEq k k' (K (.int k (k.wrap (BitVec.ofInt k.bits a ^^^ BitVec.ofInt k.bits b).toNat)))
  | .andNot, .int k a, .int k' b => kEq k k' (K (.int k (k.wrap (BitVec.ofInt k.bits a &&& ~~~BitVec.ofInt k.bits b).toNat)))
  | .eql, .int k a, .int k' b => kEq k k' (K (.bool (a == b)))
  | .neq, .int k a, .int k' b => kEq k k' (K (.bool (a != b)))
  | .lss, .int k a, .int k' b => kEq k k' (K (.bool (a < b)))
  | .leq, .int k a, .int k' b => kEq k k' (K (.bool (a ≤ b)))
  | .gtr, .int k a, .int k' b => kEq k k' (K (.bool (a > b)))
  | .geq, .int k a, .int k' b => kEq k k' (K (.bool (a ≥ b)))
  | .add, .string a, .string b => ((a.size + b.size : Nat) : Int) ≤ IntKind.i64.max ∧ K (.string (a ++ b))
  | .eql, .string a, .string b => K (.bool (a.toList == b.toList))
  | .neq, .string a, .string b => K (.bool !(a.toList == b.toList))
  | .lss, .string a, .string b => K (.bool (Op.bytesLess a.toList b.toList))
  | .leq, .string a, .string b => K (.bool (Op.bytesLess a.toList b.toList || a.toList == b.toList))
  | .gtr, .string a, .string b => K (.bool !(Op.bytesLess a.toList b.toList || a.toList == b.toList))
  | .geq, .string a, .string b => K (.bool !(Op.bytesLess a.toList b.toList))
  | .eql, .bool a, .bool b => match P.underlying t with
    | some .bool => K (.bool (a == b))
    | _ => E
  | .neq, .bool a, .bool b => match P.underlying t with
    | some .bool => K (.bool (!(a == b)))
    | _ => E
  | .eql, .pointer p, .pointer none => match P.underlying t with
    | some (.pointer _) => K (.bool p.isNone)
    | _ => E
  | .neq, .pointer p, .pointer none => match P.underlying t with
    | some (.pointer _) => K (.bool (!p.isNone))
    | _ => E
  | _, _, _ => E

/-- Where a field lies in its struct; none where it is of no size. -/
def fieldOff (P : Program) (s : TypeId) (f : Nat) : Option Nat :=
  match P.underlying s with
  | some (.struct fs) => match fs.toList[f]? with
    | some x => match P.info? x.type with
      | some i => match i.size with
        | 0 => none
        | _ + 1 => some x.offset
      | none => none
    | none => none
  | _ => none

def sizeOf? (P : Program) (t : TypeId) : Option Nat := (P.info? t).map (·.size)

/-- One bound of a slice expression. -/
def boundK (x : Option Value) (dflt : Nat) (top : Nat) (K : Nat → Prop) : Prop :=
  match x with
  | none => K dflt
  | some (.int _ i) => (0 ≤ i ∧ i ≤ top) ∧ K i.toNat
  | some _ => False

def addAt (a : Option Addr) (n : Nat) : Option Addr := a.map (·.add n)

/-- The address behind l of m elements: at the end the old one. -/
def cutAt (a : Option Addr) (l m size : Nat) : Option Addr := if m = l then a else a.map (·.add (l * size))

def plainFunc (P : Program) (f : FuncId) : Bool := match P.funcs[f]? with
  | some fn => fn.body.isSome && !(fn.name == "runtime.NumGoroutine")
  | none => false

def isStringT (P : Program) (t : TypeId) : Bool := match P.underlying t with
  | some .string => true
  | _ => false

/-- Does an operation only read? -/
def isRd (P : Program) : Op → Bool
  | .move _ | .assign _ | .pick .. | .load .. | .nilCheck _ | .binOp .. | .unOp .. | .fieldAddr .. | .field .. | .indexAddr .. | .index .. | .lookup .. | .extract .. | .makeFunc .. | .build .. | .makeInterface .. | .typeAssert .. | .entry _ => true
  | .slice .. => true
  | .convert s d _ => match P.underlying s, P.underlying d with
    | some (.int _), some (.int _) => true
    | some (.slice _), some .string => true
    | some .string, some .string => true
    | _, _ => false
  | .call { callee := .builtin .len, .. } | .call { callee := .builtin .cap, .. } | .call { callee := .builtin .min, .. } | .call { callee := .builtin .max, .. } => true
  | _ => false

def elemT (P : Program) (t : TypeId) : TypeId := match P.underlying t with
  | some (.slice e) => e
  | some (.map _ e) => e
  | some (.array _ e) => e
  | some (.pointer e) => e
  | _ => 0

/-- The cells from 'off' on overwritten. -/
def putL : List Value → Nat → List Value → List Value
  | cs, _, [] => cs
  | cs, off, v :: vs => putL (cs.set off v) (off + 1) vs

def fillL (place : Nat → Option (Nat × Nat)) (cells : List Value) : List (Nat × Value) → Option (List Value)
  | [] => some cells
  | p :: rest => match place p.1 with
    | none => none
    | some q => match Nat.beq p.2.cells.toList.length q.2 && Nat.ble (q.1 + p.2.cells.toList.length) cells.length with
      | true => fillL place (putL cells q.1 p.2.cells.toList) rest
      | false => none

def placeL (P : Program) : List Field → Nat → Option (Nat × Nat)
  | [], _ => none
  | f :: fs, i => match i with
    | 0 => match sizeOf? P f.type with
      | some n => some (f.offset, n)
      | none => none
    | i + 1 => placeL P fs i

def sizesOk (P : Program) : List Field → Bool
  | [] => true
  | f :: fs => match sizeOf? P f.type with
    | some _ => sizesOk P fs
    | none => false

/-- What a struct's literal is. -/
def buildV (P : Program) (t : TypeId) (parts : List (Nat × Value)) : Option (List Value) :=
  match P.underlying t, P.info? t with
  | some (.struct fs), some i => match i.zero, sizesOk P fs.toList with
    | some z, true => fillL (placeL P fs.toList) z.cells.toList parts
    | _, _ => none
  | _, _ => none

def evp (ρ : Env) (xs : Array (Nat × Operand)) : List (Nat × Value) := xs.toList.map fun p => (p.1, ev ρ p.2)

def evs (ρ : Env) (xs : Array Operand) : List Value := xs.toList.map (ev ρ)

/-- What min and max of whole numbers are. -/
def minMaxV (mx : Bool) (l : List Value) (E : Prop) (K : Value → Prop) : Prop := match l with
  | [.int k a, .int k' b] => kEq k k' (K (.int k (match mx with
    | true => if b > a then b else a
    | false => if b < a then b else a)))
  | _ => E

def lookN (l : List (Nat × TypeId)) (i : Nat) : Option TypeId := match l with
  | [] => none
  | x :: l => match Nat.beq i x.1 with
    | true => some x.2
    | false => lookN l i

/-- The value that a reading operation yields. -/
def rdOp (P : Program) (E : List (Nat × TypeId)) (R : Rd) (ρ : Env) (op : Op) (ty : TypeId) (K : Value → Prop) : Prop :=
  match op with
  | .move x | .assign x => K (ev ρ x)
  | .pick c a b => match ev ρ c with
    | .bool t => brc t (K (ev ρ a)) (K (ev ρ b))
    | _ => False
  | .load t x => match ev ρ x with
    | .pointer (some a) => exTy P t fun v => R (loadVar t a) v ∧ K v
    | _ => False
  | .nilCheck x => match ev ρ x with
    | .pointer p => optK p fun a => K (.pointer (some a))
    | .func (.func f) a b => K (.func (.func f) a b)
    | _ => False
  | .binOp o t x y _ => binV P o t (ev ρ x) (ev ρ y) (exTy P ty fun v => R (do eqGuard o t x y (ev ρ x) (ev ρ y); binOp o t (ev ρ x) (ev ρ y)) v ∧ K v) K
  | .unOp o _ x => match o, ev ρ x with
    | .not, .bool b => K (.bool !b)
    | .neg, .int k n => K (.int k (k.wrap (0 - n)))
    | .xor, .int k n => K (.int k (k.wrap (BitVec.ofInt k.bits (if k.signed then -1 else k.max) ^^^ BitVec.ofInt k.bits n).toNat))
    | _, _ => False
  | .fieldAddr s x f => match ev ρ x, fieldOff P s f with
    | .pointer (some a), some off => K (.pointer (some (a.add off)))
    | _, _ => False
  | .indexAddr t x i => match P.underlying t, ev ρ x, ev ρ i with
    | some (.slice e), .slice a len _, .int _ i => match sizeOf? P e with
      | some size => (0 ≤ i ∧ i < (len : Int)) ∧ optK a fun a => K (.pointer (some (a.add (i.toNat * size))))
      | none => False
    | some (.array len e), .pointer (some a), .int _ i => match sizeOf? P e with
      | some size => (0 ≤ i ∧ i < (len : Int)) ∧ K (.pointer (some (a.add (i.toNat * size))))
      | none => False
    | _, _, _ => False
  | .extract x i => match ev ρ x with
    | .tuple vs => match vs.toList[i]? with
      | some v => K v
      | none => False
    | _ => False
  | .makeFunc f first captured => K (.func f (evs ρ first).toArray (evs ρ captured).toArray)
  | .slice t x lo hi mx => match P.underlying t, ev ρ x with
    | some (.slice e), .slice a len cap => match sizeOf? P e, mx with
      | some size, none => boundK (hi.map (ev ρ)) len cap fun h => boundK (lo.map (ev ρ)) 0 h fun l => K (.slice (cutAt a l cap size) (h - l) (cap - l))
      | some size, some m => match hi with
        | some hi => boundK (some (ev ρ m)) cap cap fun m => boundK (some (ev ρ hi)) len m fun h => boundK (lo.map (ev ρ)) 0 h fun l => K (.slice (cutAt a l m size) (h - l) (m - l))
        | none => False
      | none, _ => False
    | some .string, .string s => match mx with
      | none => boundK (hi.map (ev ρ)) s.size s.size fun h => boundK (lo.map (ev ρ)) 0 h fun l => K (.string (s.extract l h))
      | some _ => False
    | _, _ => False
  | .convert s d x => match P.underlying s, P.underlying d, ev ρ x with
    | some (.int _), some (.int k), .int _ n => K (.int k (k.wrap n))
    | some .string, some .string, .string z => K (.string z)
    | _, _, v => exTy P ty fun u => R (convert s d v) u ∧ K u
  | .call { callee := .builtin .len, args, argTypes } => match evs ρ args, argTypes.toList with
    | [.slice _ n _], [t] => match P.underlying t with
      | some (.slice _) => K (.int .i64 n)
      | _ => False
    | [.string s], [t] => match P.underlying t with
      | some .string => K (.int .i64 s.size)
      | _ => False
    | vs, _ => exTy P ty fun v => R (Builtin.len_ argTypes ty vs.toArray) v ∧ K v
  | .call { callee := .builtin .cap, args, argTypes } => exTy P ty fun v => R (Builtin.cap_ argTypes ty (evs ρ args).toArray) v ∧ K v
  | .call { callee := .builtin .min, args, argTypes } => minMaxV false (evs ρ args) (exTy P ty fun v => R (Builtin.min_ argTypes ty (evs ρ args).toArray) v ∧ K v) K
  | .call { callee := .builtin .max, args, argTypes } => minMaxV true (evs ρ args) (exTy P ty fun v => R (Builtin.max_ argTypes ty (evs ρ args).toArray) v ∧ K v) K
  | .lookup t x i ok => match ok with
    | false => exTy P (elemT P t) fun v => R (Instr.lookup t (ev ρ x) (ev ρ i) false) v ∧ K v
    | true => exTy P (elemT P t) fun v => ∃ b, R (Instr.lookup t (ev ρ x) (ev ρ i) true) (.tuple #[v, .bool b]) ∧ K (.tuple #[v, .bool b])
  | .entry x => match x with
    | .tmp t => match lookN E t with
      | some m => match P.underlying m with
        | some (.map k e) => exTy P k fun u => exTy P e fun v => R (Instr.entry (ev ρ x)) (.tuple #[u, v]) ∧ K (.tuple #[u, v])
        | _ => False
      | none => False
    | _ => False
  | .field t x f => exTy P ty fun v => R (Instr.field t (ev ρ x) f) v ∧ K v
  | .index t x i => exTy P ty fun v => R (Instr.index t (ev ρ x) (ev ρ i)) v ∧ K v
  | .build t parts => match buildV P t (evp ρ parts) with
    | some cs => K (.agg cs.toArray)
    | none => exTy P t fun v => R (Instr.build t (evp ρ parts).toArray) v ∧ K v
  | .makeInterface t x => exTy P ty fun v => R (Instr.makeInterface t (ev ρ x)) v ∧ K v
  | .typeAssert x a b ok => match ok with
    | false => exTy P b fun v => R (Instr.typeAssert (ev ρ x) a b false) v ∧ K v
    | true => False
  | _ => False

/-- Frames in no round, or in one. -/
abbrev Fr (r : Option Nat) : Fence := { Fence.wide with round := r }

/-- What an operation comes to. -/
def Does (P : Program) (m : Sem Next) (w : World) (K : Value → World → Prop) : Prop :=
  match m.run P w with
  | .ok (.value v) w' => K v w'
  | .ok .skip w' => K undef w'
  | .ok (.enter f args) w' => Calls P f args w' fun e w'' => ∃ v, e = .returned v ∧ K v w''
  | .ok (.round l f tmps assign body) w' => RoundIn (Fr none) 0 P l f tmps assign body w' fun e w'' => ∃ v, e = .returned v ∧ K v w''
  | _ => False

/-- A round of a range over a function: yield is called. -/
def YieldC (P : Program) (l : Nat) (args : Array Value) (w : World) (R : Ending → World → Prop) : Prop :=
  ∃ f tmps assign body w', (Instr.yield l args).run P w = .ok (.round l f tmps assign body) w' ∧ RoundIn (Fr none) 0 P l f tmps assign body w' R

def RunA (P : Program) (m : Sem Value) (w : World) (K : Value → World → Prop) : Prop := ∃ a w', m.run P w = .ok (.pointer (some a)) w' ∧ K (.pointer (some a)) w'
def RunS (P : Program) (m : Sem Value) (w : World) (K : Value → World → Prop) : Prop := ∃ (s : SV) (w' : World), m.run P w = .ok (.slice s.a s.len s.cap) w' ∧ K (.slice s.a s.len s.cap) w'
def RunM (P : Program) (m : Sem Value) (w : World) (K : Value → World → Prop) : Prop := ∃ r w', m.run P w = .ok (.map (some r)) w' ∧ K (.map (some r)) w'
def RunI (P : Program) (m : Sem Value) (w : World) (K : Value → World → Prop) : Prop := ∃ n w', m.run P w = .ok (.int .i64 n) w' ∧ K (.int .i64 n) w'
def RunT (P : Program) (m : Sem Value) (w : World) (K : Value → World → Prop) : Prop := ∃ w', m.run P w = .ok (.tuple #[]) w' ∧ K (.tuple #[]) w'
def RunU (P : Program) (m : Sem Unit) (w : World) (K : World → Prop) : Prop := ∃ w', m.run P w = .ok () w' ∧ K w'

/-- A step of a range over a map: none is left, or an entry comes. -/
def NextM (P : Program) (it : Value) (ty : TypeId) (w : World) (over : World → Prop) (entry : Value → Value → World → Prop) : Prop :=
  match (Instr.next it false ty).run P w with
  | .ok (.tuple ⟨[.bool false]⟩) w' => over w'
  | .ok (.tuple ⟨[.bool true, k, v]⟩) w' => entry k v w'
  | _ => False

/-- A call of a function value. -/
def callV (P : Program) (v : Value) (args : List Value) (w : World) (R : Ending → World → Prop) : Prop := match v with
  | .func (.func f) first captured => plainFunc P f = true ∧ Calls P f (first.toList ++ args ++ captured.toList).toArray w R
  | .func (.yield l) first _ => YieldC P l (first.toList ++ args).toArray w R
  | _ => False

def tupT (P : Program) (ty : TypeId) (i : Nat) : TypeId := match P.underlying ty with
  | some (.tuple ts) => ts.toList.getD i 0
  | _ => 0

/-- An operation that writes, makes memory, or calls. -/
def efOp (P : Program) (ρ : Env) (op : Op) (ty : TypeId) (w : World) (K : Value → World → Prop) : Prop :=
  match op with
  | .alloc t => RunA P (Instr.alloc t true (.tuple #[])) w K
  | .box t x => RunA P (Instr.box t (ev ρ x)) w K
  | .buildSlice t n parts => RunS P (Instr.buildSlice t n (evp ρ parts).toArray) w K
  | .store t a x => RunU P (Instr.storeAt t (ev ρ a) (ev ρ x)) w (K undef)
  | .mapUpdate t m k x | .insert t m k x => RunU P (Instr.mapUpdate t (ev ρ m) (ev ρ k) (ev ρ x)) w (K undef)
  | .makeMap t r => RunM P (Instr.makeMap t (r.map (ev ρ))) w K
  | .makeSlice t l c => RunS P (Instr.makeSlice t (ev ρ l) (ev ρ c)) w K
  | .convert s d x => RunS P (convert s d (ev ρ x)) w K
  | .range t x => RunA P (Instr.range t (ev ρ x)) w K
  | .next it s => match s with
    | false => NextM P (ev ρ it) ty w (K (.tuple #[.bool false])) fun k v w' => K (.tuple #[.bool true, k, v]) w'
    | true => False
  | .call { callee := .builtin .append, args, argTypes } => RunS P (Builtin.append_ argTypes ty (evs ρ args).toArray) w K
  | .call { callee := .builtin .copy, args, argTypes } => RunI P (Builtin.copy_ argTypes ty (evs ρ args).toArray) w K
  | .call { callee := .builtin .delete, args, argTypes } => RunT P (Builtin.delete_ argTypes ty (evs ρ args).toArray) w K
  | .call { callee := .value (.func f), args, .. } => match plainFunc P f with
    | true => Calls P f (evs ρ args).toArray w fun e w' => exRes P f fun v => e = .returned v ∧ K v w'
    | false => Does P (callFunc f (evs ρ args).toArray) w K
  | .call { callee := .value f, args, .. } => callV P (ev ρ f) (evs ρ args) w fun e w' => exTy P ty fun v => e = .returned v ∧ K v w'
  | _ => False

/-- The temporary that a guard looks at. -/
def guardDst (ops : List Oper) (j : Nat) : Option Nat := match ops[j]? with
  | some o => o.dst
  | none => none

/-- A guard's two ways. -/
def guardK (ops : List Oper) (g : Option (Nat × Bool)) (ρ : Env) (yes no : Env → Prop) : Prop :=
  match g with
  | none => yes ρ
  | some (j, want) => match guardDst ops j with
    | none => False
    | some d => match ρ d with
      | .bool t => match want with
        | true => brc t (yes (upd ρ d (.bool true))) (no (upd ρ d (.bool false)))
        | false => brc t (no (upd ρ d (.bool true))) (yes (upd ρ d (.bool false)))
      | _ => no ρ

def vcOp (P : Program) (E : List (Nat × TypeId)) (ρ : Env) (o : Oper) (w : World) (K : Value → World → Prop) : Prop :=
  match isRd P o.op with
  | true => rdOp P E (At P w) ρ o.op o.type fun v => K v w
  | false => efOp P ρ o.op o.type w K

/-- A region in the order of the text. -/
def vcOps (P : Program) (E : List (Nat × TypeId)) (ops : List Oper) : List Oper → Env → World → (Env → World → Prop) → Prop
  | [], ρ, w, K => K ρ w
  | o :: rest, ρ, w, K => guardK ops o.guard ρ
      (fun ρ => vcOp P E ρ o w fun v w' => vcOps P E ops rest (updO ρ o.dst v) w' K)
      (fun ρ => vcOps P E ops rest (updO ρ o.dst undef) w K)

def conjL {α : Type} (F : α → Prop) : List α → Prop
  | [] => True
  | [x] => F x
  | x :: y :: l => F x ∧ conjL F (y :: l)

theorem conjL_all {α : Type} {F : α → Prop} : ∀ {l : List α}, conjL F l → ∀ x ∈ l, F x
  | [], _, x, hx => by cases hx
  | [y], h, x, hx => by
    rw [List.mem_singleton] at hx; subst hx; exact h
  | y :: z :: l, h, x, hx => by
    rcases List.mem_cons.1 hx with rfl | hx
    · exact h.1
    · exact conjL_all h.2 x hx

/-- The first of those that only reads. -/
def firstRd (P : Program) (ops : List Oper) : List Nat → Option Nat
  | [] => none
  | i :: l => match ops[i]? with
    | some o => match isRd P o.op with
      | true => some i
      | false => firstRd P ops l
    | none => firstRd P ops l

/-- Does a reading hang on memory? -/
def heldRd (P : Program) : Op → Bool
  | .load .. | .lookup .. | .entry _ => true
  | .convert s _ _ => match P.underlying s with
    | some (.slice _) => true
    | _ => false
  | .binOp _ t _ _ _ => match P.underlying t with
    | some (.pointer _) => true
    | _ => false
  | .call { callee := .builtin .len, argTypes, .. } => match argTypes.toList with
    | [t] => match P.underlying t with
      | some (.map _ _) => true
      | _ => false
    | _ => true
  | _ => false

/-- Does operation j wait for each of these, by an edge of its own? -/
def cov (ops : List Oper) (j : Nat) : List Nat → Bool
  | [] => true
  | i :: l => match ops[j]? with
    | some o => match o.after.toList.any (fun e => Region.binds .any e && Nat.beq e.on i) with
      | true => cov ops j l
      | false => false
    | none => false

/-- A region whose order is drawn: readings first, under a condition S that stands while those of 'held' may yet come. -/
def vcDraw (P : Program) (E : List (Nat × TypeId)) (ops : List Oper) : (World → Prop) → List Nat → Nat → Array Bool → Env → World → (Env → World → Prop) → Prop
  | _, _, 0, listed, ρ, w, K => match Region.ready .any ops.toArray listed with
    | [] => K ρ w
    | _ => False
  | S, held, n + 1, listed, ρ, w, K => match Region.ready .any ops.toArray listed with
    | [] => K ρ w
    | rs => match firstRd P ops rs with
      | some i => match ops[i]?, Region.free .any ops.toArray listed i, rs.contains i with
        | some o, true, true => guardK ops o.guard ρ
            (fun ρ => match heldRd P o.op with
              | true => rdOp P E (AtS P S) ρ o.op o.type fun v => vcDraw P E ops S (i :: held) n (listed.setIfInBounds i true) (updO ρ o.dst v) w K
              | false => rdOp P E (AtS P fun _ => True) ρ o.op o.type fun v => vcDraw P E ops S held n (listed.setIfInBounds i true) (updO ρ o.dst v) w K)
            (fun ρ => vcDraw P E ops S held n (listed.setIfInBounds i true) (updO ρ o.dst undef) w K)
        | _, _, _ => False
      | none => conjL (fun i => match ops[i]? with
        | some o => guardK ops o.guard ρ
            (fun ρ => efOp P ρ o.op o.type w fun v w' => match cov ops i held with
              | true => ∃ S' : World → Prop, S' w' ∧ vcDraw P E ops S' [] n (listed.setIfInBounds i true) (updO ρ o.dst v) w' K
              | false => ∃ S' : World → Prop, (∀ w, S' w → S w) ∧ S' w' ∧ vcDraw P E ops S' held n (listed.setIfInBounds i true) (updO ρ o.dst v) w' K)
            (fun ρ => vcDraw P E ops S held n (listed.setIfInBounds i true) (updO ρ o.dst undef) w K)
        | none => False) rs

structure Post where
  nrm : Env → World → Prop
  ret : Env → World → Prop
  exit : Nat → Env → World → Prop

/-- The temporaries that a code writes. -/
def writes : Code → List Nat
  | .seq a b => writes a ++ writes b
  | .cond _ a b => writes a ++ writes b
  | .block _ c | .loop c | .scope c => writes c
  | .region _ ops _ => ops.toList.filterMap (·.dst)
  | _ => []

def memN (l : List Nat) (i : Nat) : Bool := match l with
  | [] => false
  | x :: l => match Nat.beq i x with
    | true => true
    | false => memN l i

/-- What is written out of one, all else out of the other. -/
def mix (ws : List Nat) (g ρ : Env) : Env := fun i => match memN ws i with
  | true => g i
  | false => ρ i

/-- What kind of value a loop's temporary holds at its head. -/
inductive Kd where
  | int (k : IntKind) | bool | str | ptr | slice | map | val | adr

def Kd.T : Kd → Type
  | .int _ => Int
  | .bool => Bool
  | .str => ByteArray
  | .ptr => Option Addr
  | .slice => SV
  | .map => Option Nat
  | .val => Value
  | .adr => Addr

def Kd.toV : (k : Kd) → k.T → Value
  | .int k, n => .int k n
  | .bool, b => .bool b
  | .str, s => .string s
  | .ptr, p => .pointer p
  | .slice, s => .slice (SV.a s) (SV.len s) (SV.cap s)
  | .map, r => .map r
  | .val, v => v
  | .adr, a => .pointer (some a)

def getV : (k : Kd) → Value → (k.T → Prop) → Prop
  | .int k, .int k' n, F => kEq k k' (F n)
  | .bool, .bool b, F => F b
  | .str, .string s, F => F s
  | .ptr, .pointer p, F => F p
  | .slice, .slice a l c, F => F (SV.mk a l c)
  | .map, .map r, F => F r
  | .val, v, F => F v
  | .adr, .pointer p, F => optK p F
  | _, _, _ => False

def Slots (l : List (Nat × Kd)) : Type := match l with
  | [] => Unit
  | x :: l => x.2.T × Slots l

def getK : (l : List (Nat × Kd)) → Env → (Slots l → Prop) → Prop
  | [], _, F => F ()
  | x :: l, ρ, F => getV x.2 (ρ x.1) fun v => getK l ρ fun s => F (v, s)

def putK : (l : List (Nat × Kd)) → Slots l → Env → Env
  | [], _, ρ => ρ
  | x :: l, s, ρ => upd (putK l s.2 ρ) x.1 (x.2.toV s.1)

/-- A loop over a state: an invariant with a number that each round lowers. -/
def LoopT {σ : Type} (step : σ → World → (σ → World → Prop) → Prop) (s : σ) (w : World) : Prop :=
  ∃ (I : Nat → σ → World → Prop) (n : Nat), I n s w ∧ ∀ n s w', I n s w' → step s w' fun s' w'' => ∃ n', n' < n ∧ I n' s' w''

def VLoop (l : List (Nat × Kd)) (ws : List Nat) (step : Env → World → (Env → World → Prop) → Prop) (ρ : Env) (w : World) : Prop :=
  getK l ρ fun s => LoopT (fun s w K => ∀ g : Env, step (mix ws (putK l s g) ρ) w fun ρ'' w'' => getK l ρ'' fun s' => K s' w'') s w

/-- The number of a code's first region: a loop's name. -/
def firstRegion : Code → Option Nat
  | .region id _ _ => some id
  | .seq a b | .cond _ a b => match firstRegion a with
    | some n => some n
    | none => firstRegion b
  | .block _ c | .loop c | .scope c => firstRegion c
  | _ => none

abbrev Ann := List (Nat × List (Nat × Kd))

def annOf (ann : Ann) (n : Option Nat) : List (Nat × Kd) := match ann with
  | [] => []
  | x :: l => match n with
    | some n => match Nat.beq n x.1 with
      | true => x.2
      | false => annOf l n
    | none => []

/-- The marks of ranges over functions, behind the temporaries. -/
def markOf : Value → Deferred
  | .int _ n => { target := .collected n.toNat, args := #[] }
  | _ => { target := .nil, args := #[] }
def dsOf : Value → List Deferred
  | .tuple vs => vs.toList.map markOf
  | _ => []
def mark (v : Value) (D : Nat) : Value := match v with
  | .tuple vs => .tuple ⟨.int .i64 (D : Int) :: vs.toList⟩
  | _ => .tuple #[.int .i64 (D : Int)]

/-- A frame that shows these values. -/
structure Shows (N : Nat) (a : Act) (ρ : Env) : Prop where
  size : a.tmps.size = N
  get : ∀ i, i < N → a.tmps.getD i undef = ρ i
  defers : a.defers = dsOf (ρ N)

/-! ### Ranges over functions -/
/-- What a loop's record bears. -/
structure LB where
  fn : FuncId
  tmps : Array Value
  ps : Array Tmp
  assign : Code
  body : Code
def LB.loop (X : LB) (D : Nat) (st : LoopState) (pe : Option Code) : Obj := .loop { state := st, pending := pe, fn := X.fn, tmps := X.tmps, params := X.ps, assign := X.assign, body := X.body, defers := D }

/-- How a round may end. -/
structure RPost where
  nrm : World → Prop
  ret : World → Prop
  exit : Nat → World → Prop

def rPost (Q : RPost) : Exit → Act → World → Prop
  | .normal, _, w => Q.nrm w
  | .ret, _, w => Q.ret w
  | .exit id, _, w => Q.exit id w
  | _, _, _ => False

/-- A round on these arguments comes to this. -/
def LB.runs (P : Program) (X : LB) (l : Nat) (args : List Value) (w : World) (Q : RPost) : Prop :=
  args.length = X.ps.size ∧
  X.assign.wpIn (Fr (some l)) 0 P (Exit.then (fun a w1 => ∃ w2, (Instr.beginRound l).run P w1 = .ok () w2 ∧ X.body.wpIn (Fr (some l)) 0 P (rPost Q) a w2) (fun _ _ _ => False))
    { tmps := (X.ps.zip args.toArray).foldl (fun tmps (t, a) => tmps.setIfInBounds t a) X.tmps, defers := [] } w

def Enters (X : LB) (l D : Nat) (w w1 : World) : Prop := w1 = (w.alloc (.deferred (some []))).alloc (X.loop D .ready none) ∧ D = w.heap.size ∧ l = w.heap.size + 1

def allLeaf (d : TypeDesc) (K : Value → Prop) : Prop := match d with
  | .bool => ∀ b, K (.bool b)
  | .int k => ∀ n, K (.int k n)
  | .string => ∀ s, K (.string s)
  | .pointer _ => ∀ a, K (.pointer a)
  | .slice _ => ∀ s : SV, K (.slice s.a s.len s.cap)
  | .map _ _ => ∀ r, K (.map r)
  | .func _ _ _ => ∀ x : FV, K (.func x.f x.a x.b)
  | _ => ∀ v, K v

mutual
def allCells (P : Program) : Nat → TypeId → (List Value → Prop) → Prop
  | 0, _, _ => True
  | n + 1, t, K => match P.underlying t with
    | some (.struct fs) => allFields P n fs.toList K
    | some (.array _ _) => ∀ cs : Array Value, K cs.toList
    | some d => allLeaf d fun v => K [v]
    | none => True
def allFields (P : Program) : Nat → List Field → (List Value → Prop) → Prop
  | 0, _, _ => True
  | _ + 1, [], K => K []
  | n + 1, f :: fs, K => allCells P n f.type fun a => allFields P n fs fun b => K (a ++ b)
end

def allTy (P : Program) (t : TypeId) (K : Value → Prop) : Prop := match P.underlying t with
  | some (.struct fs) => allFields P 40 fs.toList fun l => K (.agg l.toArray)
  | some (.array _ _) => ∀ cs : Array Value, K (.agg cs)
  | some d => allLeaf d K
  | none => True

theorem allLeaf_of {d : TypeDesc} {K : Value → Prop} (h : ∀ v, K v) : allLeaf d K := by
  unfold allLeaf
  split <;> intros <;> exact h _

mutual
theorem allCells_of {P : Program} : ∀ (n : Nat) (t : TypeId) (K : List Value → Prop), (∀ l, K l) → allCells P n t K
  | 0, _, _, _ => by simp [allCells]
  | n + 1, t, K, h => by
    unfold allCells
    split
    · exact allFields_of n _ K h
    · intro cs; exact h _
    · exact allLeaf_of fun v => h _
    · trivial
theorem allFields_of {P : Program} : ∀ (n : Nat) (fs : List Field) (K : List Value → Prop), (∀ l, K l) → allFields P n fs K
  | 0, _, _, _ => by simp [allFields]
  | _ + 1, [], K, h => by simp only [allFields]; exact h _
  | n + 1, f :: fs, K, h => by
    simp only [allFields]
    exact allCells_of n f.type _ fun a => allFields_of n fs _ fun b => h _
end

theorem allTy_of {P : Program} {t : TypeId} {K : Value → Prop} (h : ∀ v, K v) : allTy P t K := by
  unfold allTy
  split
  · exact allFields_of _ _ _ fun l => h _
  · intro cs; exact h _
  · exact allLeaf_of h
  · trivial

/-- The temporaries' types: what a loop's variables may be. -/
def allArgs (P : Program) (E : List (Nat × TypeId)) : List Nat → Env → (List Value → Env → Prop) → Prop
  | [], ρ, K => K [] ρ
  | p :: ps, ρ, K => match lookN E p with
    | some t => allTy P t fun v => allArgs P E ps (upd ρ p v) fun l ρ => K (v :: l) ρ
    | none => True

/-- The function that was ranged over has returned. -/
def leaveV (P : Program) (X : LB) (l D : Nat) (Qn Qr : World → Prop) (Qx : Nat → World → Prop) (w : World) : Prop :=
  ∃ st pe, w.heap[l]? = some (X.loop D st pe) ∧ st ≠ .busy ∧ (match pe with
    | none => Qn (w.putObj l (X.loop D .exhausted pe))
    | some .ret => Qr (w.putObj l (X.loop D .exhausted pe))
    | some (.exit id) => Qx id (w.putObj l (X.loop D .exhausted pe))
    | _ => False)

def rangeV (P : Program) (v : Value) (w : World) (H : LB → Nat → Prop) (Qn Qr : Nat → World → Prop) (Qx : Nat → Nat → World → Prop) : Prop := match v with
  | .func (.func gf) first lb => plainFunc P gf = true ∧ ∀ (X : LB) (l D : Nat) (w1 : World), Enters X l D w w1 → H X l →
      Calls P gf (first.toList ++ [Value.func (.yield l) #[] #[]] ++ lb.toList).toArray w1 fun e w3 => (∃ v, e = .returned v) ∧ leaveV P X l D (Qn D) (Qr D) (Qx D) w3
  | _ => False

/-- Does a code leave for outside? -/
def exitsOut : List Nat → Code → Bool
  | bs, .exit id => !memN bs id
  | bs, .block id c => exitsOut (id :: bs) c
  | bs, .seq a b => exitsOut bs a || exitsOut bs b
  | bs, .cond _ a b => exitsOut bs a || exitsOut bs b
  | bs, .loop c => exitsOut bs c
  | bs, .scope c => exitsOut bs c
  | bs, .rangeFunc _ _ a b => exitsOut bs a || exitsOut bs b
  | _, _ => false

/-- A block for deferred calls is empty, and is shut. -/
def shutV (D : Nat) (w : World) (K : World → Prop) : Prop := w.heap[D]? = some (.deferred (some [])) ∧ K (w.putObj D (.deferred none))

def postOf (N : Nat) (Q : Post) : Exit → Act → World → Prop
  | .normal, a, w => ∃ ρ, Shows N a ρ ∧ Q.nrm ρ w
  | .ret, a, w => ∃ ρ, Shows N a ρ ∧ Q.ret ρ w
  | .exit id, a, w => ∃ ρ, Shows N a ρ ∧ Q.exit id ρ w
  | _, _, _ => False

def vc (P : Program) (E : List (Nat × TypeId)) (N : Nat) (ann : Ann) : Code → Post → Env → World → Prop
  | .skip, Q, ρ, w => Q.nrm ρ w
  | .seq a b, Q, ρ, w => vc P E N ann a ⟨fun ρ w => vc P E N ann b Q ρ w, Q.ret, Q.exit⟩ ρ w
  | .cond c a b, Q, ρ, w => match ev ρ c with
    | .bool t => brc t (vc P E N ann a Q ρ w) (vc P E N ann b Q ρ w)
    | _ => False
  | .block id c, Q, ρ, w => vc P E N ann c ⟨Q.nrm, Q.ret, fun i ρ w => match Nat.beq i id with
    | true => Q.nrm ρ w
    | false => Q.exit i ρ w⟩ ρ w
  | .exit id, Q, ρ, w => Q.exit id ρ w
  | .ret, Q, ρ, w => Q.ret ρ w
  | .label _, Q, ρ, w => Q.nrm ρ w
  | .loop c, Q, ρ, w => VLoop (annOf ann (firstRegion c)) (writes c) (fun ρ w K => vc P E N ann c ⟨K, Q.ret, Q.exit⟩ ρ w) ρ w
  | .region _ ops false, Q, ρ, w => vcOps P E ops.toList ops.toList ρ w Q.nrm
  | .region _ ops true, Q, ρ, w => ∃ S : World → Prop, S { w with drawn := w.drawn + 1 } ∧ vcDraw P E ops.toList S [] ops.toList.length (Array.replicate ops.toList.length false) ρ { w with drawn := w.drawn + 1 } Q.nrm
  | .rangeFunc f ps asg b, Q, ρ, w => rangeV P (ev ρ f) w
      (fun X l => allArgs P E ps.toList (upd ρ N undef) fun args ρ' => ∀ (w : World) (R : RPost), vc P E N ann asg ⟨fun ρ w1 => ∃ w2, (Instr.beginRound l).run P w1 = .ok () w2 ∧ vc P E N ann b ⟨fun _ w => R.nrm w, fun _ w => R.ret w, fun i _ w => R.exit i w⟩ ρ w2, fun _ _ => False, fun _ _ _ => False⟩ ρ' w → X.runs P l args w R)
      (fun D w => Q.nrm (upd ρ N (mark (ρ N) D)) w) (fun D w => Q.ret (upd ρ N (mark (ρ N) D)) w) (match exitsOut [] b with
        | true => fun D i w => Q.exit i (upd ρ N (mark (ρ N) D)) w
        | false => fun _ _ _ => False)
  | _, _, _, _ => False

end Go.Proofs.Ytonjaaljnjjjcaa

/- 'vc' is sound: what it reads as logic, the model's code does. Conditions: the temporaries named lie in the frame. -/
set_option linter.unusedVariables false
set_option linter.unusedSimpArgs false
namespace Go.Proofs.Ytonjaaljnjjjcaa
open Go

theorem run_sizeOf? {P : Program} {t : TypeId} {n : Nat} (h : sizeOf? P t = some n) (w : World) : (sizeOf t).run P w = .ok n w := by
  unfold sizeOf? at h
  cases hi : P.info? t with
  | none => simp [hi] at h
  | some i =>
    simp [hi] at h
    simp [sizeOf, typeInfo, hi, h]

/-- What is asked of a reading's meaning. -/
structure Good (P : Program) (R : Rd) (G : Sem Next → Value → Prop) : Prop where
  rd : ∀ (m : Sem Value) v, R m v → G (do pure (.value (← m))) v
  pure : ∀ m v, (∀ w, m.run P w = .ok (.value v) w) → G m v

theorem equal_bool {P : Program} {t : TypeId} (hu : P.underlying t = some .bool) (a b : Bool) (w : World) : (Op.equal t (.bool a) (.bool b)).run P w = .ok (a == b) w := by
  have h : ∀ d, (Op.equalIn (d + 1) t (.bool a) (.bool b)).run P w = .ok (a == b) w := fun d => by simp [Op.equalIn, run_underlying hu]
  exact h 9999
theorem equal_ptr {P : Program} {t e : TypeId} (hu : P.underlying t = some (.pointer e)) (p : Option Addr) (w : World) : (Op.equal t (.pointer p) (.pointer none)).run P w = .ok p.isNone w := by
  have h : ∀ d, (Op.equalIn (d + 1) t (.pointer p) (.pointer none)).run P w = .ok p.isNone w := fun d => by cases p <;> simp [Op.equalIn, run_underlying hu]
  exact h 9999

theorem binV_sound {P : Program} {op : BinOp} {t : TypeId} {xo yo : Operand} {x y : Value} {E : Prop} {K : Value → Prop} (h : binV P op t x y E K) :
    E ∨ ∃ v, (∀ w, (do eqGuard op t xo yo x y; binOp op t x y : Sem Value).run P w = .ok v w) ∧ K v := by
  unfold binV at h
  split at h
  case h_29 => exact .inl h
  case h_1 =>
    have h1 := Int.not_lt.2 h.1
    refine .inr ⟨_, ?_, h.2⟩
    intro w
    simp [eqGuard, binOp, Op.shift, h1]
  case h_2 =>
    have h1 := Int.not_lt.2 h.1
    refine .inr ⟨_, ?_, h.2⟩
    intro w
    simp [eqGuard, binOp, Op.shift, h1]
  case h_18 =>
    have h1 := h.1
    refine .inr ⟨_, ?_, h.2⟩
    intro w
    simp only [eqGuard, binOp, Op.stringOp]
    rw [if_neg (Int.not_lt.2 h1)]
    simp
  case h_25 =>
    split at h
    · rename_i hu
      refine .inr ⟨_, ?_, h⟩
      intro w
      simp [eqGuard, binOp, equal_bool hu]
    · exact .inl h
  case h_26 =>
    split at h
    · rename_i hu
      refine .inr ⟨_, ?_, h⟩
      intro w
      simp [eqGuard, binOp, equal_bool hu]
    · exact .inl h
  case h_27 =>
    split at h
    · rename_i p _ hu
      refine .inr ⟨_, ?_, h⟩
      intro w
      simp [eqGuard, binOp, equal_ptr hu]
    · exact .inl h
  case h_28 =>
    split at h
    · rename_i p _ hu
      refine .inr ⟨_, ?_, h⟩
      intro w
      simp [eqGuard, binOp, equal_ptr hu]
    · exact .inl h
  all_goals first
    | (obtain ⟨rfl, h'⟩ := kEq_of h
       refine .inr ⟨_, ?_, h'⟩
       intro w
       simp [eqGuard, binOp, Op.intArith, Op.intCmp, Op.intBits]
       done)
    | (obtain ⟨rfl, h0, h'⟩ := kEq_of h
       refine .inr ⟨_, ?_, h'⟩
       intro w
       simp [eqGuard, binOp, Op.intDiv, h0]
       done)
    | (refine .inr ⟨_, ?_, h⟩
       intro w
       simp [eqGuard, binOp, Op.stringOp]
       done)

theorem fieldAt_run {P : Program} {s : TypeId} {f off : Nat} (h : fieldOff P s f = some off) (a : Addr) (w : World) :
    (Instr.fieldAt s (.pointer (some a)) f).run P w = .ok (.pointer (some (a.add off))) w := by
  unfold fieldOff at h
  split at h
  · rename_i fs hu
    split at h
    · rename_i x hx
      split at h
      · rename_i i hi
        split at h
        · cases h
        · rename_i n hn
          injection h with h
          subst h
          have hx' : fs[f]? = some x := by simpa using hx
          simp [Instr.fieldAt, run_underlying hu, hx', Instr.sureAddr, fieldPlace, sizeOf, typeInfo, hi, hn]
      · cases h
    · cases h
  · cases h

theorem sliceBound_run {P : Program} {k : IntKind} {i : Int} {y : Nat} {c : BoundsCode} (h : 0 ≤ i ∧ i ≤ (y : Int)) (w : World) :
    (Instr.sliceBound (.int k i) y c).run P w = .ok i.toNat w := by
  simp [Instr.sliceBound, asIntOf, h]

theorem indexAt_slice {P : Program} {t e : TypeId} {size : Nat} (hu : P.underlying t = some (.slice e)) (hs : sizeOf? P e = some size) {a : Addr} {len cap : Nat} {k : IntKind} {i : Int} (h : 0 ≤ i ∧ i < (len : Int)) (w : World) :
    (Instr.indexAt t (.slice (some a) len cap) (.int k i)).run P w = .ok (.pointer (some (a.add (i.toNat * size)))) w := by
  have := run_sizeOf? hs w
  simp [Instr.indexAt, asIntOf, run_underlying hu, h, this]

theorem indexAt_arr {P : Program} {t e : TypeId} {n size : Nat} (hu : P.underlying t = some (.array n e)) (hs : sizeOf? P e = some size) {a : Addr} {k : IntKind} {i : Int} (h : 0 ≤ i ∧ i < (n : Int)) (w : World) :
    (Instr.indexAt t (.pointer (some a)) (.int k i)).run P w = .ok (.pointer (some (a.add (i.toNat * size)))) w := by
  have := run_sizeOf? hs w
  simp [Instr.indexAt, asIntOf, run_underlying hu, h, this, Instr.sureAddr]

theorem boundK_some {x : Option Value} {d t : Nat} {K : Nat → Prop} (h : boundK x d t K) :
    (x = none ∧ K d) ∨ ∃ k i, x = some (.int k i) ∧ (0 ≤ i ∧ i ≤ (t : Int)) ∧ K i.toNat := by
  unfold boundK at h
  split at h
  · exact .inl ⟨rfl, h⟩
  · exact .inr ⟨_, _, rfl, h⟩
  · exact h.elim

theorem sliceBounds2 {P : Program} {b : Bool} {len cap : Nat} {hi lo : Option Value} {K : Nat → Nat → Prop}
    (h : boundK hi len cap fun h => boundK lo 0 h fun l => K h l) :
    ∃ l h, (∀ w, (Instr.sliceBounds b len cap lo hi none).run P w = .ok (l, h, cap) w) ∧ K h l := by
  rcases boundK_some h with ⟨rfl, h1⟩ | ⟨k, i, rfl, hb, h1⟩
  · rcases boundK_some h1 with ⟨rfl, h2⟩ | ⟨k', i', rfl, hb', h2⟩
    · exact ⟨_, _, fun w => by simp [Instr.sliceBounds], h2⟩
    · exact ⟨_, _, fun w => by simp [Instr.sliceBounds, sliceBound_run hb'], h2⟩
  · rcases boundK_some h1 with ⟨rfl, h2⟩ | ⟨k', i', rfl, hb', h2⟩
    · exact ⟨_, _, fun w => by simp [Instr.sliceBounds, sliceBound_run hb], h2⟩
    · exact ⟨_, _, fun w => by simp [Instr.sliceBounds, sliceBound_run hb, sliceBound_run hb'], h2⟩

theorem sliceBounds3 {P : Program} {len cap : Nat} {m hi : Value} {lo : Option Value} {K : Nat → Nat → Nat → Prop}
    (h : boundK (some m) cap cap fun m => boundK (some hi) len m fun h => boundK lo 0 h fun l => K m h l) :
    ∃ m' l h, (∀ w, (Instr.sliceBounds true len cap lo (some hi) (some m)).run P w = .ok (l, h, m') w) ∧ K m' h l := by
  rcases boundK_some h with ⟨h0, _⟩ | ⟨km, im, hm, hbm, h1⟩
  · cases h0
  injection hm with hm
  subst hm
  rcases boundK_some h1 with ⟨h0, _⟩ | ⟨k, i, hm, hb, h2⟩
  · cases h0
  injection hm with hm
  subst hm
  rcases boundK_some h2 with ⟨rfl, h3⟩ | ⟨k', i', rfl, hb', h3⟩
  · exact ⟨_, _, _, fun w => by simp [Instr.sliceBounds, sliceBound_run hbm, sliceBound_run hb], h3⟩
  · exact ⟨_, _, _, fun w => by simp [Instr.sliceBounds, sliceBound_run hbm, sliceBound_run hb, sliceBound_run hb'], h3⟩

theorem minMax_sound {P : Program} {mx : Bool} {l : List Value} {E : Prop} {K : Value → Prop} (h : minMaxV mx l E K) :
    E ∨ ∃ v, (∀ ats ty w, (if mx then Builtin.max_ ats ty l.toArray else Builtin.min_ ats ty l.toArray : Sem Value).run P w = .ok v w) ∧ K v := by
  unfold minMaxV at h
  split at h
  · obtain ⟨rfl, h'⟩ := kEq_of h
    refine .inr ⟨_, ?_, h'⟩
    intro ats ty w
    cases mx <;> simp [Builtin.max_, Builtin.min_, Builtin.max2, Builtin.min2]
  · exact .inl h

theorem optK_of {α : Type} {p : Option α} {K : α → Prop} (h : optK p K) : ∃ a, p = some a ∧ K a := by
  cases p with
  | none => exact h.elim
  | some a => exact ⟨a, rfl, h⟩

theorem brc_of {t : Bool} {A B : Prop} (h : brc t A B) : (t = true ∧ A) ∨ (t = false ∧ B) := by
  cases t
  · exact .inr ⟨rfl, h⟩
  · exact .inl ⟨rfl, h⟩

theorem evs_arr (ρ : Env) (xs : Array Operand) : (evs ρ xs).toArray = xs.map (ev ρ) := by
  apply Array.ext'
  simp [evs]

theorem evp_arr (ρ : Env) (xs : Array (Nat × Operand)) : (evp ρ xs).toArray = xs.map fun (i, x) => (i, ev ρ x) := by
  apply Array.ext'
  simp [evp]

theorem putL_fold (vs : List Value) : ∀ (cs : List Value) (off k : Nat), (vs.zipIdx k).foldl (fun (cs : Array Value) (p : Value × Nat) => cs.setIfInBounds (off + p.2) p.1) cs.toArray = (putL cs (off + k) vs).toArray := by
  induction vs with
  | nil => intro cs off k; rfl
  | cons v vs ih =>
    intro cs off k
    simp only [List.zipIdx_cons, List.foldl_cons, putL]
    have := ih (cs.set (off + k) v) off (k + 1)
    simpa [Nat.add_assoc] using this

theorem fillL_sound {place : Nat → Option (Nat × Nat)} : ∀ (parts : List (Nat × Value)) (cells l : List Value), fillL place cells parts = some l → Instr.fill place cells.toArray parts = some l.toArray
  | [], cells, l, h => by
    simp only [fillL, Option.some.injEq] at h
    subst h
    rfl
  | p :: rest, cells, l, h => by
    simp only [fillL] at h
    split at h
    · cases h
    · rename_i q hq
      split at h
      · rename_i hb
        simp only [Bool.and_eq_true] at hb
        obtain ⟨h1, h2⟩ := hb
        have h1 := Nat.eq_of_beq_eq_true h1
        have h2 := Nat.le_of_ble_eq_true h2
        obtain ⟨i, v⟩ := p
        obtain ⟨off, n⟩ := q
        simp only at hq h1 h2 h
        have hs : v.cells.size = n := by simpa using h1
        have ho : ¬ (off + v.cells.size > cells.toArray.size) := by simp at h2 ⊢; omega
        have hf := putL_fold v.cells.toList cells off 0
        have hz : (v.cells.zipIdx.foldl (fun (cs : Array Value) (x : Value × Nat) => cs.setIfInBounds (off + x.2) x.1) cells.toArray) = (putL cells off v.cells.toList).toArray := by
          rw [← Array.foldl_toList, Array.toList_zipIdx]
          simpa using hf
        unfold Instr.fill
        simp only [hq]
        rw [if_neg (by simp only [hs, ne_eq, not_true_eq_false, Bool.or_eq_true, decide_eq_true_eq, false_or]; rw [← hs]; exact ho)]
        exact (congrArg (fun z => Instr.fill place z rest) hz).trans (fillL_sound rest _ l h)
      · cases h

theorem sizes_run {P : Program} {w : World} : ∀ (fs : List Field), sizesOk P fs = true →
    ∃ l, (fs.mapM (m := Sem) fun f => do pure (f.offset, ← sizeOf f.type)).run P w = .ok l w ∧ ∀ i, l[i]? = placeL P fs i
  | [], _ => ⟨[], rfl, fun i => by simp [placeL]⟩
  | f :: fs, h => by
    simp only [sizesOk] at h
    split at h
    · rename_i n hn
      obtain ⟨l, hl, hp⟩ := sizes_run (w := w) fs h
      refine ⟨(f.offset, n) :: l, ?_, fun i => ?_⟩
      · simp only [List.mapM_cons, Sem.run_bind, run_sizeOf? hn, Result.andThen_ok, Sem.run_pure, hl]
      · cases i with
        | zero => simp [placeL, hn]
        | succ i => simpa [placeL] using hp i
    · cases h

theorem buildV_sound {P : Program} {t : TypeId} {parts : List (Nat × Value)} {cs : List Value} (h : buildV P t parts = some cs) (w : World) :
    (Instr.build t parts.toArray).run P w = .ok (.agg cs.toArray) w := by
  unfold buildV at h
  split at h
  · rename_i fs i hu hi
    split at h
    · rename_i z hz hs
      obtain ⟨l, hl, hp⟩ := sizes_run (P := P) (w := w) fs.toList hs
      have hf := fillL_sound _ _ _ h
      have he : (fun i => l[i]?) = placeL P fs.toList := funext hp
      simp only [Instr.build, Sem.run_bind, zeroValue, typeInfo, run_program, Result.andThen_ok, hi, hz, Sem.run_pure, run_underlying hu, Array.mapM_eq_mapM_toList, Sem.run_map]
      have hl' : Sem.run P (fs.toList.mapM fun f => do pure (f.offset, ← sizeOf f.type)) w = .ok l w := hl
      erw [hl']
      simp only [Result.andThen_ok, List.getElem?_toArray]
      rw [he]
      have hf' : Instr.fill (placeL P fs.toList) z.cells parts = some cs.toArray := by simpa using hf
      simp only [hf', Sem.run_pure]
    · cases h
  · cases h

theorem rdOp_sound {P : Program} {E : List (Nat × TypeId)} {R : Rd} {G : Sem Next → Value → Prop} (hG : Good P R G) {ρ : Env} {o : Oper} {K : Value → Prop}
    (h : rdOp P E R ρ o.op o.type K) : ∃ v, G (execOp (ev ρ) o) v ∧ K v := by
  obtain ⟨dst, op, ty, pos, after, guard⟩ := o
  dsimp only at h
  have fall : ∀ (t : TypeId) (m : Sem Value), execOp (ev ρ) ⟨dst, op, ty, pos, after, guard⟩ = (do pure (.value (← m))) → (exTy P t fun v => R m v ∧ K v) → ∃ v, G (execOp (ev ρ) ⟨dst, op, ty, pos, after, guard⟩) v ∧ K v := fun t m he hx => by
    obtain ⟨v, hr, hk⟩ := exTy_ex hx
    exact ⟨v, he ▸ hG.rd m v hr, hk⟩
  have pur : ∀ (m : Sem Value) (v : Value), execOp (ev ρ) ⟨dst, op, ty, pos, after, guard⟩ = (do pure (.value (← m))) → (∀ w, m.run P w = .ok v w) → K v → ∃ v, G (execOp (ev ρ) ⟨dst, op, ty, pos, after, guard⟩) v ∧ K v := fun m v he hm hk =>
    ⟨v, hG.pure _ v (fun w => by rw [he]; simp [hm w]), hk⟩
  cases op with
  | move x => exact ⟨_, hG.pure _ _ (fun w => rfl), h⟩
  | assign x => exact ⟨_, hG.pure _ _ (fun w => rfl), h⟩
  | pick c a b =>
    simp only [rdOp] at h
    split at h
    · rename_i t ht
      rcases brc_of h with ⟨rfl, h⟩ | ⟨rfl, h⟩
      · exact ⟨_, hG.pure _ _ (fun w => by simp [execOp, ht, asBool]), h⟩
      · exact ⟨_, hG.pure _ _ (fun w => by simp [execOp, ht, asBool]), h⟩
    · exact h.elim
  | load t x =>
    simp only [rdOp] at h
    split at h
    · rename_i a ha
      exact fall t (loadVar t a) (by simp [execOp, ha, Instr.loadAt, Instr.sureAddr]) h
    · exact h.elim
  | nilCheck x =>
    simp only [rdOp] at h
    split at h
    · rename_i p hp
      obtain ⟨a, rfl, hk⟩ := optK_of h
      exact ⟨_, hG.pure _ _ (fun w => by simp [execOp, hp]), hk⟩
    · rename_i f a b hp
      exact ⟨_, hG.pure _ _ (fun w => by simp [execOp, hp]), h⟩
    · exact h.elim
  | binOp o t x y yt =>
    simp only [rdOp] at h
    rcases binV_sound (xo := x) (yo := y) h with h | ⟨v, hv, hk⟩
    · exact fall ty _ rfl h
    · exact pur _ v rfl hv hk
  | unOp o t x =>
    simp only [rdOp] at h
    split at h
    · rename_i b hb
      exact pur _ _ rfl (fun w => by rw [hb]; rfl) h
    · rename_i k n hb
      exact pur _ _ rfl (fun w => by rw [hb]; rfl) h
    · rename_i k n hb
      exact pur _ _ rfl (fun w => by rw [hb]; rfl) h
    · exact h.elim
  | fieldAddr s x f =>
    simp only [rdOp] at h
    split at h
    · rename_i a off ha hf
      exact pur _ _ rfl (fun w => by rw [ha]; exact fieldAt_run hf a w) h
    · exact h.elim
  | indexAddr t x i =>
    simp only [rdOp] at h
    split at h
    · rename_i e a len c k n hu hx hi
      split at h
      · rename_i size hs
        obtain ⟨hb, h⟩ := h
        obtain ⟨a, rfl, hk⟩ := optK_of h
        exact pur _ _ rfl (fun w => by rw [hx, hi]; exact indexAt_slice hu hs hb w) hk
      · exact h.elim
    · rename_i len e a k n hu hx hi
      split at h
      · rename_i size hs
        obtain ⟨hb, hk⟩ := h
        exact pur _ _ rfl (fun w => by rw [hx, hi]; exact indexAt_arr hu hs hb w) hk
      · exact h.elim
    · exact h.elim
  | extract x i =>
    simp only [rdOp] at h
    split at h
    · rename_i vs hvs
      split at h
      · rename_i v hv
        have hv' : vs[i]? = some v := by simpa using hv
        exact pur _ _ rfl (fun w => by rw [hvs]; simp [Instr.extract, hv']) h
      · exact h.elim
    · exact h.elim
  | makeFunc f a b =>
    simp only [rdOp, evs_arr] at h
    exact pur _ _ rfl (fun w => rfl) h
  | slice t x lo hi mx =>
    simp only [rdOp] at h
    split at h
    · rename_i e a len cap hu hx
      split at h
      · rename_i size hs
        obtain ⟨l, hh, hr, hk⟩ := sliceBounds2 (P := P) (b := true) h
        refine pur _ _ rfl (fun w => ?_) hk
        rw [hx]
        simp [Instr.sliceAt, Instr.slice, run_underlying hu, hr, run_sizeOf? hs, cutAt]
      · rename_i size m hs
        split at h
        · obtain ⟨m', l, hh, hr, hk⟩ := sliceBounds3 (P := P) h
          refine pur _ _ rfl (fun w => ?_) hk
          rw [hx]
          simp [Instr.sliceAt, Instr.slice, run_underlying hu, hr, run_sizeOf? hs, cutAt]
        · exact h.elim
      · exact h.elim
    · rename_i s hu hx
      split at h
      · obtain ⟨l, hh, hr, hk⟩ := sliceBounds2 (P := P) (b := false) h
        refine pur _ _ rfl (fun w => ?_) hk
        rw [hx]
        simp [Instr.sliceAt, Instr.slice, run_underlying hu, hr]
      · exact h.elim
    · exact h.elim
  | convert s d x =>
    simp only [rdOp] at h
    split at h
    · rename_i k0 k k1 n hs hd hx
      exact pur _ _ rfl (fun w => by rw [hx]; simp [convert, run_underlying hs, run_underlying hd, Conv.intToInt]) h
    · rename_i z hs hd hx
      exact pur _ _ rfl (fun w => by rw [hx]; simp [convert, run_underlying hs, run_underlying hd]) h
    · exact fall _ _ rfl h
  | lookup t x i ok =>
    simp only [rdOp] at h
    cases ok with
    | false => exact fall _ _ rfl h
    | true =>
      obtain ⟨v, b, hr, hk⟩ := exTy_ex h
      exact ⟨_, hG.rd (Instr.lookup t (ev ρ x) (ev ρ i) true) _ hr, hk⟩
  | entry x =>
    simp only [rdOp] at h
    split at h
    · split at h
      · split at h
        · obtain ⟨u, h⟩ := exTy_ex h
          obtain ⟨v, hr, hk⟩ := exTy_ex h
          exact ⟨_, hG.rd (Instr.entry _) _ hr, hk⟩
        · exact h.elim
      · exact h.elim
    · exact h.elim
  | field t x f => exact fall _ _ rfl h
  | index t x i => exact fall _ _ rfl h
  | build t parts =>
    simp only [rdOp] at h
    have he : execOp (ev ρ) ⟨dst, .build t parts, ty, pos, after, guard⟩ = (do pure (.value (← Instr.build t (evp ρ parts).toArray))) := by rw [evp_arr]; rfl
    split at h
    · rename_i cs hcs
      exact pur _ _ he (buildV_sound hcs) h
    · exact fall _ _ he h
  | makeInterface t x => exact fall _ _ rfl h
  | typeAssert x a b ok =>
    cases ok with
    | false => exact fall _ _ rfl h
    | true => exact h.elim
  | call c =>
    obtain ⟨callee, args, ats⟩ := c
    cases callee with
    | builtin b =>
      cases b with
      | len =>
        simp only [rdOp] at h
        split at h
        · rename_i a n c t hvs hts
          split at h
          · rename_i e hu
            refine pur (Builtin.len_ ats ty (args.map (ev ρ))) _ rfl (fun w => ?_) h
            rw [← evs_arr, hvs]
            have h0 : ats = #[t] := by rw [← Array.toArray_toList (xs := ats), hts]
            rw [h0]
            simp [Builtin.len_, run_underlying hu, goInt]
          · exact h.elim
        · rename_i s t hvs hts
          split at h
          · rename_i hu
            refine pur (Builtin.len_ ats ty (args.map (ev ρ))) _ rfl (fun w => ?_) h
            rw [← evs_arr, hvs]
            have h0 : ats = #[t] := by rw [← Array.toArray_toList (xs := ats), hts]
            rw [h0]
            simp [Builtin.len_, run_underlying hu, goInt]
          · exact h.elim
        · rw [evs_arr] at h; exact fall _ _ rfl h
      | cap => simp only [rdOp, evs_arr] at h; exact fall _ _ rfl h
      | min =>
        simp only [rdOp] at h
        rcases minMax_sound (P := P) h with h | ⟨v, hv, hk⟩
        · rw [evs_arr] at h; exact fall _ _ rfl h
        · exact pur (Builtin.min_ ats ty (args.map (ev ρ))) v rfl (fun w => by simpa [evs_arr] using hv ats ty w) hk
      | max =>
        simp only [rdOp] at h
        rcases minMax_sound (P := P) h with h | ⟨v, hv, hk⟩
        · rw [evs_arr] at h; exact fall _ _ rfl h
        · exact pur (Builtin.max_ ats ty (args.map (ev ρ))) v rfl (fun w => by simpa [evs_arr] using hv ats ty w) hk
      | _ => exact h.elim
    | _ => exact h.elim
  | _ => exact h.elim

end Go.Proofs.Ytonjaaljnjjjcaa

/- 'vc' is sound: the operations that write or call, regions, and whole codes. Conditions: asg in V2. -/
set_option linter.unusedVariables false
set_option linter.unusedSimpArgs false
namespace Go.Proofs.Ytonjaaljnjjjcaa
open Go

theorem Does_ok {P : Program} {m : Sem Value} {w w' : World} {v : Value} {K : Value → World → Prop} (h : m.run P w = .ok v w') (hk : K v w') : Does P (do pure (.value (← m))) w K := by
  unfold Does
  simp [h, hk]

theorem Does_unit {P : Program} {m : Sem Unit} {w w' : World} {K : Value → World → Prop} (h : m.run P w = .ok () w') (hk : K undef w') : Does P (do m; pure .skip) w K := by
  unfold Does
  simp [h, hk]

theorem Does_mono {P : Program} {m : Sem Next} {w : World} {K K' : Value → World → Prop} (hm : ∀ v w, K v w → K' v w) (h : Does P m w K) : Does P m w K' := by
  unfold Does at *
  split at h
  · exact hm _ _ h
  · exact hm _ _ h
  · exact h.mono fun e w'' ⟨v, he, hk⟩ => ⟨v, he, hm _ _ hk⟩
  · exact h.mono fun e w'' ⟨v, he, hk⟩ => ⟨v, he, hm _ _ hk⟩
  · exact h

theorem callFunc_plain {P : Program} {f : FuncId} (h : plainFunc P f = true) (args : Array Value) (w : World) : (callFunc f args).run P w = .ok (.enter f args) w := by
  unfold plainFunc at h
  split at h
  · rename_i fn hf
    simp only [Bool.and_eq_true, Bool.not_eq_true'] at h
    obtain ⟨h1, h2⟩ := h
    have h4 : ¬ fn.body = none := by cases hb : fn.body <;> simp_all
    have h5 : ¬ fn.name = "runtime.NumGoroutine" := by simpa using h2
    simp [callFunc, hf, h4, h5]
  · cases h

theorem Does_call {P : Program} {f : FuncId} (hp : plainFunc P f = true) {args : Array Value} {w : World} {K : Value → World → Prop}
    (h : Calls P f args w fun e w' => ∃ v, e = .returned v ∧ K v w') : Does P (callFunc f args) w K := by
  unfold Does
  rw [callFunc_plain hp]
  exact h

theorem efOp_sound {P : Program} {ρ : Env} {o : Oper} {w : World} {K : Value → World → Prop} (h : efOp P ρ o.op o.type w K) : Does P (execOp (ev ρ) o) w K := by
  obtain ⟨dst, op, ty, pos, after, guard⟩ := o
  dsimp only at h
  cases op with
  | alloc t => obtain ⟨a, w', hr, hk⟩ := h; exact Does_ok hr hk
  | box t x => obtain ⟨a, w', hr, hk⟩ := h; exact Does_ok hr hk
  | buildSlice t n parts =>
    simp only [efOp, evp_arr] at h
    obtain ⟨a, w', hr, hk⟩ := h
    exact Does_ok hr hk
  | store t a x => obtain ⟨w', hr, hk⟩ := h; exact Does_unit hr hk
  | mapUpdate t m k x => obtain ⟨w', hr, hk⟩ := h; exact Does_unit hr hk
  | insert t m k x => obtain ⟨w', hr, hk⟩ := h; exact Does_unit hr hk
  | makeMap t r => obtain ⟨a, w', hr, hk⟩ := h; exact Does_ok hr hk
  | makeSlice t l c => obtain ⟨a, w', hr, hk⟩ := h; exact Does_ok hr hk
  | convert s d x => obtain ⟨a, w', hr, hk⟩ := h; exact Does_ok hr hk
  | range t x => obtain ⟨a, w', hr, hk⟩ := h; exact Does_ok hr hk
  | next it s =>
    simp only [efOp] at h
    cases s with
    | true => exact h.elim
    | false =>
      simp only [NextM] at h
      split at h
      · rename_i w' hr
        exact Does_ok hr h
      · rename_i k v w' hr
        exact Does_ok hr h
      · exact h.elim
  | call c =>
    obtain ⟨callee, args, ats⟩ := c
    cases callee with
    | builtin b =>
      cases b with
      | append => simp only [efOp, evs_arr] at h; obtain ⟨a, w', hr, hk⟩ := h; exact Does_ok (m := Builtin.append_ ats ty (args.map (ev ρ))) hr hk
      | copy => simp only [efOp, evs_arr] at h; obtain ⟨a, w', hr, hk⟩ := h; exact Does_ok (m := Builtin.copy_ ats ty (args.map (ev ρ))) hr hk
      | delete => simp only [efOp, evs_arr] at h; obtain ⟨w', hr, hk⟩ := h; exact Does_ok (m := Builtin.delete_ ats ty (args.map (ev ρ))) hr hk
      | _ => exact h.elim
    | value f =>
      have hx : ∀ g fst cap, ev ρ f = .func (.func g) fst cap → execOp (ev ρ) ⟨dst, .call ⟨.value f, args, ats⟩, ty, pos, after, guard⟩ = callFunc g (fst.toList ++ evs ρ args ++ cap.toList).toArray := by
        intro g fst cap hg
        have he : (fst.toList ++ evs ρ args ++ cap.toList).toArray = (fst ++ args.map (ev ρ)) ++ cap := by
          rw [← evs_arr]
          apply Array.ext'
          simp
        rw [he]
        simp only [execOp, resolve, hg, Deferred.ofValue, pure_bind, invoke]
      have hV : callV P (ev ρ f) (evs ρ args) w (fun e w' => exTy P ty fun v => e = .returned v ∧ K v w') → Does P (execOp (ev ρ) ⟨dst, .call ⟨.value f, args, ats⟩, ty, pos, after, guard⟩) w K := by
        intro h
        unfold callV at h
        split at h
        · rename_i g fst cap hg
          rw [hx g fst cap hg]
          exact Does_call h.1 (h.2.mono fun e w' hk => let ⟨v, he, hk⟩ := exTy_ex hk; ⟨v, he, hk⟩)
        · rename_i l fst cap hg
          have he : (fst.toList ++ evs ρ args).toArray = fst ++ args.map (ev ρ) := by
            rw [← evs_arr]
            apply Array.ext'
            simp
          have hx' : execOp (ev ρ) ⟨dst, .call ⟨.value f, args, ats⟩, ty, pos, after, guard⟩ = Instr.yield l (fst.toList ++ evs ρ args).toArray := by
            rw [he]
            simp only [execOp, resolve, hg, Deferred.ofValue, pure_bind, invoke]
          obtain ⟨f', tmps, asg, b, w', hr, h⟩ := h
          rw [hx']
          unfold Does
          rw [hr]
          exact h.mono fun e w' hk => let ⟨v, he, hk⟩ := exTy_ex hk; ⟨v, he, hk⟩
        · exact h.elim
      cases f with
      | func g =>
        have h0 := hx g #[] #[] rfl
        rw [h0]
        simp only [efOp] at h
        have he : ((#[] : Array Value).toList ++ evs ρ args ++ (#[] : Array Value).toList).toArray = (evs ρ args).toArray := by simp
        rw [he]
        split at h
        · rename_i hp
          exact Does_call hp (h.mono fun e w' hk => let ⟨v, he, hk⟩ := exRes_ex hk; ⟨v, he, hk⟩)
        · exact h
      | tmp t => exact hV h
      | const v => exact hV h
      | global g => exact hV h
    | _ => exact h.elim
  | _ => exact h.elim

/-! ### Frames -/
def operandOk (N : Nat) : Operand → Bool
  | .tmp t => Nat.blt t N
  | _ => true

def notSelect : Op → Bool
  | .select .. => false
  | .defer .. => false
  | _ => true

def operOk (N : Nat) (o : Oper) : Bool :=
  (match o.dst with
   | some d => Nat.blt d N
   | none => true) && (o.op.operands.toList.all (operandOk N)) && notSelect o.op

def codeOk (N : Nat) : Code → Bool
  | .region _ ops _ => ops.toList.all (operOk N)
  | .seq a b => codeOk N a && codeOk N b
  | .cond c a b => operandOk N c && codeOk N a && codeOk N b
  | .block _ c | .loop c | .scope c => codeOk N c
  | _ => true

theorem Shows.ev {N : Nat} {a : Act} {ρ : Env} (h : Shows N a ρ) {x : Operand} (hx : operandOk N x = true) : a.eval x = ev ρ x := by
  cases x with
  | tmp t => exact h.get t ((Nat.blt_eq ▸ hx : t < N))
  | _ => rfl

theorem upd_same (ρ : Env) (d : Nat) (v : Value) : upd ρ d v d = v := by simp [upd]
theorem upd_other {ρ : Env} {d i : Nat} {v : Value} (h : i ≠ d) : upd ρ d v i = ρ i := by
  unfold upd
  split
  · rename_i hb; exact absurd (Nat.eq_of_beq_eq_true hb) h
  · rfl

theorem Shows.put {N : Nat} {a : Act} {ρ : Env} (h : Shows N a ρ) {d : Option Nat} (hd : ∀ x, d = some x → x < N) (v : Value) : Shows N (a.put d v) (updO ρ d v) := by
  cases d with
  | none => exact h
  | some d =>
    have hd' := hd d rfl
    refine ⟨by simp [Act.put, h.size], fun i hi => ?_, by rw [updO, upd_other (Nat.ne_of_gt hd')]; exact h.defers⟩
    by_cases e : i = d
    · subst e
      simp [Act.put, updO, upd_same, h.size, hi]
    · rw [updO, upd_other e, ← h.get i hi]
      simp [Act.put, Array.getElem?_setIfInBounds_ne (Ne.symm e)]

theorem Shows.exec {N : Nat} {a : Act} {ρ : Env} (h : Shows N a ρ) {o : Oper} (ho : operOk N o = true) : execOp a.eval o = execOp (Go.Proofs.Ytonjaaljnjjjcaa.ev ρ) o := by
  simp only [operOk, Bool.and_eq_true] at ho
  obtain ⟨⟨_, h2⟩, h3⟩ := ho
  refine execOp_congr o (fun cs b e => by rw [e] at h3; cases h3) fun x hx => h.ev ?_
  exact List.all_eq_true.1 h2 x (by simpa using hx)

theorem operOk_dst {N : Nat} {o : Oper} (ho : operOk N o = true) : ∀ x, o.dst = some x → x < N := by
  intro x hx
  simp only [operOk, Bool.and_eq_true, hx] at ho
  exact (Nat.blt_eq ▸ ho.1.1 : x < N)

theorem operOk_defer {N : Nat} {o : Oper} (ho : operOk N o = true) : ∀ c, o.op ≠ .defer c := by
  intro c e
  simp only [operOk, Bool.and_eq_true, e, notSelect] at ho
  exact absurd ho.2 (by decide)

theorem Does_wp {P : Program} {r : Option Nat} {o : Oper} {a : Act} {w : World} {K : Value → World → Prop} {next : Act → World → Prop} {Q : Exit → Act → World → Prop}
    (hd : ∀ c, o.op ≠ .defer c) (h : Does P (execOp a.eval o) w K) (hn : ∀ v w, K v w → next (a.put o.dst v) w) : o.wpIn (Fr r) 0 P a w next Q := by
  refine ⟨fun _ _ => trivial, ?_⟩
  rw [Oper.semAt_eq _ _ _ hd]
  have hdep : (Fr r).depth.isSome = true → 1 ≤ 0 := fun h => by cases h
  unfold Does at h
  split at h <;> rename_i hr <;> simp only [hr, Oper.uponIn]
  · exact hn _ _ h
  · exact hn _ _ h
  · refine ⟨hdep, (callsIn_wide (n := 0).2 h : CallsIn (Fr r) 0 P _ _ _ _).mono fun e w'' ⟨v, he, hk⟩ => ?_⟩
    subst he
    exact hn _ _ hk
  · refine ⟨hdep, (h : RoundIn (Fr r) 0 P _ _ _ _ _ _ _).mono fun e w'' ⟨v, he, hk⟩ => ?_⟩
    subst he
    exact hn _ _ hk
  · exact h.elim

theorem At_good (P : Program) (w : World) : Good P (At P w) fun m v => m.run P w = .ok (.value v) w :=
  ⟨fun m v h => by simp [show m.run P w = .ok v w from h], fun _ _ h => h w⟩

theorem AtS_good (P : Program) (S : World → Prop) : Good P (AtS P S) fun m v => ∀ w, S w → m.run P w = .ok (.value v) w :=
  ⟨fun m v h w hw => by simp [h w hw], fun _ _ h w _ => h w⟩

theorem vcOp_sound {P : Program} {E : List (Nat × TypeId)} {ρ : Env} {o : Oper} {w : World} {K : Value → World → Prop} (h : vcOp P E ρ o w K) : Does P (execOp (ev ρ) o) w K := by
  unfold vcOp at h
  split at h
  · obtain ⟨v, hr, hk⟩ := rdOp_sound (At_good P w) h
    unfold Does
    rw [hr]
    exact hk
  · exact efOp_sound h

theorem guardDst_some {ops : List Oper} {j d : Nat} (h : guardDst ops j = some d) : (ops.toArray[j]?).bind (·.dst) = some d := by
  unfold guardDst at h
  simp only [List.getElem?_toArray]
  split at h
  · rename_i o ho; rw [ho]; exact h
  · cases h

/-- What a guard says, in the frame's words. -/
theorem guardK_of {N : Nat} {ops : List Oper} {o : Oper} {a : Act} {ρ : Env} (hs : Shows N a ρ) (hok : ∀ j d, guardDst ops j = some d → d < N) {yes no : Env → Prop} (h : guardK ops o.guard ρ yes no) :
    ∃ ρ', Shows N a ρ' ∧ (∀ i, ρ' i = ρ i) ∧ ((Region.wanted o (yielded ops.toArray a.tmps) = true ∧ yes ρ') ∨ (Region.wanted o (yielded ops.toArray a.tmps) = false ∧ no ρ')) := by
  unfold guardK at h
  split at h
  · rename_i hg
    exact ⟨ρ, hs, fun _ => rfl, .inl ⟨by simp [Region.wanted, hg], h⟩⟩
  · rename_i j want hg
    split at h
    · exact h.elim
    · rename_i d hd
      have hdN := hok j d hd
      split at h
      · rename_i t ht
        have hy : yielded ops.toArray a.tmps j = some t := by
          unfold yielded
          rw [guardDst_some hd]
          have h1 := hs.get d hdN
          rw [ht] at h1
          have h2 : d < a.tmps.size := by rw [hs.size]; exact hdN
          have h3 : a.tmps[d]? = some (.bool t) := by
            rw [Array.getElem?_eq_getElem h2]
            have : a.tmps.getD d undef = a.tmps[d] := by simp [h2]
            rw [← this, h1]
          simp [h3]
        have hsame : ∀ i, upd ρ d (.bool t) i = ρ i := fun i => by
          by_cases e : i = d
          · subst e; rw [upd_same, ht]
          · exact upd_other e
        have hs' : Shows N a (upd ρ d (.bool t)) := ⟨hs.size, fun i hi => by rw [hsame i]; exact hs.get i hi, by rw [hsame N]; exact hs.defers⟩
        refine ⟨upd ρ d (.bool t), hs', hsame, ?_⟩
        simp only [Region.wanted, hg, hy]
        cases want <;> cases t <;> simp [brc] at h ⊢ <;> exact h
      · rename_i hnb
        refine ⟨ρ, hs, fun _ => rfl, .inr ⟨?_, h⟩⟩
        have h1 := hs.get d hdN
        have h2 : d < a.tmps.size := by rw [hs.size]; exact hdN
        have h3 : a.tmps[d]? = some (ρ d) := by
          rw [Array.getElem?_eq_getElem h2]
          have : a.tmps.getD d undef = a.tmps[d] := by simp [h2]
          rw [← this, h1]
        have hy : yielded ops.toArray a.tmps j = none := by
          unfold yielded
          rw [guardDst_some hd]
          simp only [Option.bind_some, h3]
          split
          · rename_i b hb
            injection hb with hb
            exact absurd hb (hnb b)
          · rfl
        simp [Region.wanted, hg, hy]

theorem vcOps_sound {P : Program} {r : Option Nat} {E : List (Nat × TypeId)} {N : Nat} {ops : List Oper} (hok : ops.all (operOk N) = true) : ∀ (l : List Oper) (ρ : Env) (w : World) (a : Act) (K : Env → World → Prop) (Q : Exit → Act → World → Prop),
    (∀ o ∈ l, operOk N o = true) → Shows N a ρ → vcOps P E ops l ρ w K → (∀ ρ w a, Shows N a ρ → K ρ w → Q .normal a w) → wpListIn (Fr r) 0 P ops.toArray Q l a w
  | [], ρ, w, a, K, Q, _, hs, h, hq => hq _ _ _ hs h
  | o :: rest, ρ, w, a, K, Q, hl, hs, h, hq => by
    have hd : ∀ j d, guardDst ops j = some d → d < N := fun j d hj => by
      unfold guardDst at hj
      split at hj
      · rename_i o' ho
        exact operOk_dst (List.all_eq_true.1 hok o' (List.mem_of_getElem? ho)) d hj
      · cases hj
    have ho := hl o List.mem_cons_self
    simp only [vcOps] at h
    obtain ⟨ρ', hs', _, hw⟩ := guardK_of hs hd h
    unfold wpListIn
    rcases hw with ⟨hw, h⟩ | ⟨hw, h⟩
    · rw [if_pos hw]
      refine (Does_wp (operOk_defer ho) (K := fun v w' => vcOps P E ops rest (updO ρ' o.dst v) w' K) (by rw [hs'.exec ho]; exact vcOp_sound h) fun v w' hk => ?_)
      exact vcOps_sound hok rest _ _ _ K Q (fun o hx => hl o (List.mem_cons_of_mem _ hx)) (hs'.put (operOk_dst ho) v) hk hq
    · rw [if_neg (by simp [hw])]
      refine ⟨fun _ _ => trivial, ?_⟩
      exact vcOps_sound hok rest _ _ _ K Q (fun o hx => hl o (List.mem_cons_of_mem _ hx)) (hs'.put (operOk_dst ho) undef) h hq

end Go.Proofs.Ytonjaaljnjjjcaa

/- 'vc' is sound: regions whose order is drawn, loops, and whole codes. Conditions: asg in V2. -/
set_option linter.unusedVariables false
set_option linter.unusedSimpArgs false
namespace Go.Proofs.Ytonjaaljnjjjcaa
open Go

theorem noSelect_of {N : Nat} {ops : List Oper} (hok : ops.all (operOk N) = true) : Region.noSelect ops.toArray = true := by
  unfold Region.noSelect
  rw [← Array.all_toList]
  refine List.all_eq_true.2 fun o ho => ?_
  have h := List.all_eq_true.1 hok o (by simpa using ho)
  simp only [operOk, Bool.and_eq_true] at h
  have h2 := h.2
  cases ho : o.op <;> simp [ho, notSelect] at h2 ⊢

theorem noDefer_of {N : Nat} {ops : List Oper} (hok : ops.all (operOk N) = true) : ∀ (j : Nat) (o : Oper) c, ops.toArray[j]? = some o → o.op ≠ .defer c := fun j o c ho =>
  operOk_defer (List.all_eq_true.1 hok o (List.mem_of_getElem? (by simpa using ho))) c

theorem guard_lt {N : Nat} {ops : List Oper} (hok : ops.all (operOk N) = true) : ∀ j d, guardDst ops j = some d → d < N := fun j d hj => by
  unfold guardDst at hj
  split at hj
  · rename_i o' ho
    exact operOk_dst (List.all_eq_true.1 hok o' (List.mem_of_getElem? ho)) d hj
  · cases hj

theorem YieldsIf_wpOpIn {P : Program} {r : Option Nat} {ops : Array Oper} {Q : Exit → Act → World → Prop} {S : World → Prop} {i : Nat} {o : Oper} {v : Value} {a : Act} (hi : ops[i]? = some o) (hd : ∀ c, o.op ≠ .defer c) (hy : YieldsIf P ops S o v a)
    {K : Act → World → Prop} {w : World} (hS : S w) (h : K (a.put o.dst v) w) : wpOpIn (Fr r) 0 P ops Q i K a w := by
  unfold wpOpIn
  simp only [hi]
  rcases hy with ⟨hw, hv⟩ | ⟨hw, rfl⟩
  · simp only [hw, if_true, Oper.wpIn, Oper.semAt_eq _ _ _ hd, hv w hS, Oper.uponIn]; exact ⟨fun _ _ => trivial, h⟩
  · simp only [hw, Bool.false_eq_true, if_false]; exact ⟨fun _ _ => trivial, h⟩

theorem wpOpIn_putIf {P : Program} {r : Option Nat} {ops : Array Oper} {Q : Exit → Act → World → Prop} {S : World → Prop} {j : Nat} {oi oj : Oper} {v : Value} (hj : ops[j]? = some oj) (hap : oi.apart ops oj = true)
    (hsi : ∀ cs b, oi.op ≠ .select cs b) (hsj : ∀ cs b, oj.op ≠ .select cs b) (hdj : ∀ c, oj.op ≠ .defer c)
    (hQ : ∀ c a w, Q (.panic c) (a.put oi.dst v) w → Q (.panic c) a w) {K : Act → World → Prop} {a : Act} {w : World}
    (hy : YieldsIf P ops S oi v a) (h : wpOpIn (Fr r) 0 P ops Q j K (a.put oi.dst v) w) :
    wpOpIn (Fr r) 0 P ops Q j (fun a' w' => YieldsIf P ops S oi v a' ∧ K (a'.put oi.dst v) w') a w := by
  obtain ⟨h1, h2, h3⟩ := Oper.apart_spec hap
  have keep : ∀ (a : Act), YieldsIf P ops S oi v a → ∀ u, YieldsIf P ops S oi v (a.put oj.dst u) := fun a hy u =>
    hy.of_same (execOp_put oi hsi a oj.dst u h3) (wanted_put oi a oj.dst u h3)
  have keepD : ∀ d, YieldsIf P ops S oi v { a with defers := d :: a.defers } := fun d => hy.of_same rfl rfl
  unfold wpOpIn at *
  simp only [hj] at *
  rw [wanted_put oj a oi.dst v h1] at h
  split
  · rename_i hw
    simp only [hw, if_true] at h
    unfold Oper.wpIn at *
    refine ⟨fun _ _ => trivial, ?_⟩
    have h := h.2
    rw [Oper.semAt_eq _ _ _ hdj, execOp_put oj hsj a oi.dst v h1] at h
    rw [Oper.semAt_eq _ _ _ hdj]
    generalize (execOp a.eval oj).run P w = r at *
    cases r with
    | ok x w' =>
      cases x <;> simp only [Oper.uponIn] at h ⊢
      case value u => exact ⟨keep a hy u, by rw [← Act.put_comm a v u h2]; exact h⟩
      case skip => exact ⟨keep a hy _, by rw [← Act.put_comm a v undef h2]; exact h⟩
      case defer d =>
        refine ⟨keep _ (keepD d) _, ?_⟩
        rw [← Act.put_comm _ v undef h2, ← Act.put_defers]
        exact h
      case enter f args =>
        refine ⟨h.1, CallsIn.mono h.2 fun e w'' he => ?_⟩
        cases e with
        | returned u => exact ⟨keep a hy u, by rw [← Act.put_comm a v u h2]; exact he⟩
        | panicked c => exact hQ _ _ _ he
        | outgrown => exact he
      case row row args => exact ⟨h.1, RowsIn.mono h.2 fun u w'' he => ⟨keep a hy u, by rw [← Act.put_comm a v u h2]; exact he⟩⟩
      case round l f tmps assign body =>
        refine ⟨h.1, RoundIn.mono h.2 fun e w'' he => ?_⟩
        cases e with
        | returned u => exact ⟨keep a hy u, by rw [← Act.put_comm a v u h2]; exact he⟩
        | panicked c => exact hQ _ _ _ he
        | outgrown => exact he
    | halt x w' =>
      cases x <;> simp only [Oper.uponIn] at h ⊢
      case panic u => exact hQ _ _ _ h
  · rename_i hw
    simp only [hw] at h
    exact ⟨fun _ _ => trivial, keep a hy _, by rw [← Act.put_comm a v undef h2]; exact h.2⟩

/-- Whatever order is picked from here on; the condition stands while those of 'held' may yet come. -/
def wpAnyD (P : Program) (r : Option Nat) (ops : List Oper) (Q : Exit → Act → World → Prop) : Nat → Array Bool → List Nat → (World → Prop) → Act → World → Prop
  | 0, listed, _, _, a, w => Region.ready .any ops.toArray listed = [] ∧ Q .normal a w
  | n + 1, listed, held, S, a, w => (Region.ready .any ops.toArray listed = [] → Q .normal a w) ∧
    ∀ i ∈ Region.ready .any ops.toArray listed, wpOpIn (Fr r) 0 P ops.toArray Q i (fun a' w' => ∃ S' : World → Prop, S' w' ∧
      ((cov ops i held = true ∧ wpAnyD P r ops Q n (listed.setIfInBounds i true) [] S' a' w') ∨ ((∀ w, S' w → S w) ∧ wpAnyD P r ops Q n (listed.setIfInBounds i true) held S' a' w'))) a w

theorem cov_sub {ops : List Oper} {j : Nat} : ∀ {l l' : List Nat}, (∀ x ∈ l', x ∈ l) → cov ops j l = true → cov ops j l' = true := by
  have key : ∀ l : List Nat, cov ops j l = true ↔ ∀ i ∈ l, ∃ o, ops[j]? = some o ∧ (o.after.toList.any fun e => Region.binds .any e && Nat.beq e.on i) = true := by
    intro l
    induction l with
    | nil => simp [cov]
    | cons i l ih =>
      unfold cov
      constructor
      · intro h x hx
        split at h
        · rename_i o ho
          split at h
          · rename_i ha
            rcases List.mem_cons.1 hx with rfl | hx
            · exact ⟨o, ho, ha⟩
            · exact ih.1 h x hx
          · cases h
        · cases h
      · intro h
        obtain ⟨o, ho, ha⟩ := h i List.mem_cons_self
        simp only [ho, ha]
        exact ih.2 fun x hx => h x (List.mem_cons_of_mem _ hx)
  intro l l' hs h
  exact (key l').2 fun i hi => (key l).1 h i (hs i hi)

theorem cov_cons {ops : List Oper} {i j : Nat} {l : List Nat} {o : Oper} (ho : ops[j]? = some o) (hn : ∀ e ∈ o.after, Region.binds .any e = true → e.on ≠ i) : cov ops j (i :: l) = false := by
  unfold cov
  simp only [ho]
  have : (o.after.toList.any fun e => Region.binds .any e && Nat.beq e.on i) = false := by
    rw [List.any_eq_false]
    intro e he
    simp only [Bool.and_eq_true, not_and, Bool.not_eq_true]
    intro hb
    have := hn e (by simpa using he) hb
    cases hbe : Nat.beq e.on i
    · rfl
    · exact absurd (Nat.eq_of_beq_eq_true hbe) this
  simp only [this]

section
variable {P : Program} {r : Option Nat} {ops : List Oper} {Q : Exit → Act → World → Prop}

theorem wpAny_of_D : ∀ (n : Nat) (listed : Array Bool) (held : List Nat) (S : World → Prop) (a : Act) (w : World), wpAnyD P r ops Q n listed held S a w → wpAnyIn (Fr r) 0 P .any ops.toArray Q n listed a w
  | 0, _, _, _, _, _, h => h
  | n + 1, _, _, _, _, _, h => ⟨h.1, fun i hi => wpOpIn_mono (fun a' w' ⟨S', _, h'⟩ => h'.elim (fun h => wpAny_of_D n _ _ S' a' w' h.2) (fun h => wpAny_of_D n _ _ S' a' w' h.2)) (h.2 i hi)⟩

theorem wpAnyD_sub : ∀ (n : Nat) (listed : Array Bool) (held held' : List Nat) (S : World → Prop) (a : Act) (w : World), (∀ x ∈ held', x ∈ held) → wpAnyD P r ops Q n listed held S a w → wpAnyD P r ops Q n listed held' S a w
  | 0, _, _, _, _, _, _, _, h => h
  | n + 1, _, held, held', _, _, _, hs, h => ⟨h.1, fun i hi => wpOpIn_mono (fun a' w' ⟨S', h0, h'⟩ => ⟨S', h0, h'.elim (fun h => .inl ⟨cov_sub hs h.1, h.2⟩) (fun h => .inr ⟨h.1, wpAnyD_sub n _ held held' _ _ _ hs h.2⟩)⟩) (h.2 i hi)⟩

theorem YieldsIf_mono {S S' : World → Prop} {o : Oper} {v : Value} {a : Act} (h : ∀ w, S' w → S w) (hy : YieldsIf P ops.toArray S o v a) : YieldsIf P ops.toArray S' o v a :=
  hy.imp (fun ⟨hw, hv⟩ => ⟨hw, fun w hw' => hv w (h w hw')⟩) id

/-- A reading that hangs on memory is taken first. -/
theorem wpAnyD_held {i : Nat} {oi : Oper} {v : Value} (hi : ops.toArray[i]? = some oi) (hsel : ∀ (j : Nat) (o : Oper) cs b, ops.toArray[j]? = some o → o.op ≠ .select cs b) (hdef : ∀ (j : Nat) (o : Oper) c, ops.toArray[j]? = some o → o.op ≠ .defer c)
    (hQ : ∀ c a w, Q (.panic c) (a.put oi.dst v) w → Q (.panic c) a w) :
    ∀ (fuel : Nat) (listed : Array Bool) (held : List Nat) (S : World → Prop) (a : Act) (w : World),
      (∀ j oj, ops.toArray[j]? = some oj → j ≠ i → listed.getD j true = false → (∀ e ∈ oj.after, Region.binds .any e = true → e.on ≠ i) → oi.apart ops.toArray oj = true) →
      i ∈ Region.ready .any ops.toArray listed → YieldsIf P ops.toArray S oi v a → S w →
      wpAnyD P r ops Q fuel (listed.setIfInBounds i true) (i :: held) S (a.put oi.dst v) w → wpAnyD P r ops Q (fuel + 1) listed held S a w := by
  intro fuel
  induction fuel with
  | zero =>
    intro listed held S a w _ hr hy hS H
    refine ⟨fun h => (by rw [h] at hr; cases hr), fun j hj => ?_⟩
    by_cases hji : j = i
    · subst hji; exact YieldsIf_wpOpIn hi (hdef _ _ · hi) hy hS ⟨S, hS, .inr ⟨fun _ h => h, wpAnyD_sub _ _ _ _ _ _ _ (fun x hx => List.mem_cons_of_mem _ hx) H⟩⟩
    · have := ready_mono hj hji
      rw [H.1] at this
      cases this
  | succ fuel ih =>
    intro listed held S a w hfree hr hy hS H
    refine ⟨fun h => (by rw [h] at hr; cases hr), fun j hj => ?_⟩
    by_cases hji : j = i
    · subst hji; exact YieldsIf_wpOpIn hi (hdef _ _ · hi) hy hS ⟨S, hS, .inr ⟨fun _ h => h, wpAnyD_sub _ _ _ _ _ _ _ (fun x hx => List.mem_cons_of_mem _ hx) H⟩⟩
    · have h1 := H.2 j (ready_mono hj hji)
      obtain ⟨hjun, oj, hoj, hall⟩ := mem_ready.1 hj
      have hnot : ∀ e ∈ oj.after, Region.binds .any e = true → e.on ≠ i := fun e he hb heq => by
        have h1 := hall e he hb
        have h0 := (mem_ready.1 hr).1
        rw [heq] at h1
        rcases Nat.lt_or_ge i listed.size with h' | h'
        · simp [h'] at h0 h1; rw [h0] at h1; cases h1
        · simp [Array.getElem?_eq_none h'] at h1
      have hc : cov ops j (i :: held) = false := cov_cons (by simpa using hoj) hnot
      have h2 := wpOpIn_putIf hoj (hfree j oj hoj hji hjun hnot) (fun cs b => hsel i oi cs b hi) (fun cs b => hsel j oj cs b hoj) (fun c => hdef j oj c hoj) hQ hy h1
      have hfree' : ∀ k ok, ops.toArray[k]? = some ok → k ≠ i → (listed.setIfInBounds j true).getD k true = false →
          (∀ e ∈ ok.after, Region.binds .any e = true → e.on ≠ i) → oi.apart ops.toArray ok = true := fun k ok hk hki hun hno => by
        refine hfree k ok hk hki ?_ hno
        by_cases hjk : j = k
        · subst hjk; exact hjun
        · rw [getD_set_ne true hjk] at hun; exact hun
      refine wpOpIn_mono (fun a' w' ⟨hya, S', hS', h3⟩ => ⟨S', hS', ?_⟩) h2
      rcases h3 with ⟨h3, _⟩ | ⟨hle, h3⟩
      · rw [hc] at h3; cases h3
      · refine .inr ⟨hle, ih (listed.setIfInBounds j true) held S' a' w' hfree' (ready_mono hr (Ne.symm hji)) (YieldsIf_mono hle hya) hS' ?_⟩
        rw [Array.setIfInBounds_comm _ _ hji]
        exact h3

/-- A reading that hangs on nothing is taken first. -/
theorem wpAnyD_pure {i : Nat} {oi : Oper} {v : Value} (hi : ops.toArray[i]? = some oi) (hsel : ∀ (j : Nat) (o : Oper) cs b, ops.toArray[j]? = some o → o.op ≠ .select cs b) (hdef : ∀ (j : Nat) (o : Oper) c, ops.toArray[j]? = some o → o.op ≠ .defer c)
    (hQ : ∀ c a w, Q (.panic c) (a.put oi.dst v) w → Q (.panic c) a w) :
    ∀ (fuel : Nat) (listed : Array Bool) (held : List Nat) (S : World → Prop) (a : Act) (w : World),
      (∀ j oj, ops.toArray[j]? = some oj → j ≠ i → listed.getD j true = false → (∀ e ∈ oj.after, Region.binds .any e = true → e.on ≠ i) → oi.apart ops.toArray oj = true) →
      i ∈ Region.ready .any ops.toArray listed → YieldsIf P ops.toArray (fun _ => True) oi v a → S w →
      wpAnyD P r ops Q fuel (listed.setIfInBounds i true) held S (a.put oi.dst v) w → wpAnyD P r ops Q (fuel + 1) listed held S a w := by
  intro fuel
  induction fuel with
  | zero =>
    intro listed held S a w _ hr hy hS H
    refine ⟨fun h => (by rw [h] at hr; cases hr), fun j hj => ?_⟩
    by_cases hji : j = i
    · subst hji; exact YieldsIf_wpOpIn hi (hdef _ _ · hi) hy trivial ⟨S, hS, .inr ⟨fun _ h => h, H⟩⟩
    · have := ready_mono hj hji
      rw [H.1] at this
      cases this
  | succ fuel ih =>
    intro listed held S a w hfree hr hy hS H
    refine ⟨fun h => (by rw [h] at hr; cases hr), fun j hj => ?_⟩
    by_cases hji : j = i
    · subst hji; exact YieldsIf_wpOpIn hi (hdef _ _ · hi) hy trivial ⟨S, hS, .inr ⟨fun _ h => h, H⟩⟩
    · have h1 := H.2 j (ready_mono hj hji)
      obtain ⟨hjun, oj, hoj, hall⟩ := mem_ready.1 hj
      have hnot : ∀ e ∈ oj.after, Region.binds .any e = true → e.on ≠ i := fun e he hb heq => by
        have h1 := hall e he hb
        have h0 := (mem_ready.1 hr).1
        rw [heq] at h1
        rcases Nat.lt_or_ge i listed.size with h' | h'
        · simp [h'] at h0 h1; rw [h0] at h1; cases h1
        · simp [Array.getElem?_eq_none h'] at h1
      have h2 := wpOpIn_putIf hoj (hfree j oj hoj hji hjun hnot) (fun cs b => hsel i oi cs b hi) (fun cs b => hsel j oj cs b hoj) (fun c => hdef j oj c hoj) hQ hy h1
      have hfree' : ∀ k ok, ops.toArray[k]? = some ok → k ≠ i → (listed.setIfInBounds j true).getD k true = false →
          (∀ e ∈ ok.after, Region.binds .any e = true → e.on ≠ i) → oi.apart ops.toArray ok = true := fun k ok hk hki hun hno => by
        refine hfree k ok hk hki ?_ hno
        by_cases hjk : j = k
        · subst hjk; exact hjun
        · rw [getD_set_ne true hjk] at hun; exact hun
      refine wpOpIn_mono (fun a' w' ⟨hya, S', hS', h3⟩ => ⟨S', hS', ?_⟩) h2
      rcases h3 with ⟨h3, h4⟩ | ⟨hle, h4⟩
      · refine .inl ⟨h3, ih (listed.setIfInBounds j true) [] S' a' w' hfree' (ready_mono hr (Ne.symm hji)) hya hS' ?_⟩
        rw [Array.setIfInBounds_comm _ _ hji]
        exact h4
      · refine .inr ⟨hle, ih (listed.setIfInBounds j true) held S' a' w' hfree' (ready_mono hr (Ne.symm hji)) hya hS' ?_⟩
        rw [Array.setIfInBounds_comm _ _ hji]
        exact h4

theorem wpAnyD_done {listed : Array Bool} {held : List Nat} {S : World → Prop} {a : Act} {w : World} (hr : Region.ready .any ops.toArray listed = []) (h : Q .normal a w) :
    ∀ fuel, wpAnyD P r ops Q fuel listed held S a w
  | 0 => ⟨hr, h⟩
  | _ + 1 => ⟨fun _ => h, by rw [hr]; simp⟩
end

theorem vcDraw_sound {P : Program} {r : Option Nat} {E : List (Nat × TypeId)} {N : Nat} {ops : List Oper} (hok : ops.all (operOk N) = true) {K : Env → World → Prop} {Q : Exit → Act → World → Prop}
    (hq : ∀ ρ w a, Shows N a ρ → K ρ w → Q .normal a w) (hp : ∀ c a w, ¬ Q (.panic c) a w) :
    ∀ (S : World → Prop) (held : List Nat) (n : Nat) (listed : Array Bool) (ρ : Env) (w : World) (a : Act), Shows N a ρ → S w → vcDraw P E ops S held n listed ρ w K → wpAnyD P r ops Q n listed held S a w
  | S, held, 0, listed, ρ, w, a, hs, _, h => by
    unfold vcDraw at h
    split at h
    · rename_i hr; exact ⟨hr, hq _ _ _ hs h⟩
    · exact h.elim
  | S, held, n + 1, listed, ρ, w, a, hs, hS, h => by
    unfold vcDraw at h
    split at h
    · rename_i hr; exact wpAnyD_done hr (hq _ _ _ hs h) _
    · rename_i hne
      split at h
      · rename_i i hi
        split at h
        · rename_i o ho hf hc
          have hoN : operOk N o = true := List.all_eq_true.1 hok o (List.mem_of_getElem? ho)
          have ho' : ops.toArray[i]? = some o := by simpa using ho
          obtain ⟨ρ', hs', _, hw⟩ := guardK_of hs (guard_lt hok) h
          rcases hw with ⟨hw, h⟩ | ⟨hw, h⟩
          · split at h
            · obtain ⟨v, hv, hk⟩ := rdOp_sound (AtS_good P S) h
              refine wpAnyD_held (v := v) ho' (Region.noSelect_spec (noSelect_of hok)) (noDefer_of hok) (fun c a w h => absurd h (hp c _ w)) n listed held S a w (Region.free_spec ho' hf) (by simpa using hc) (.inl ⟨hw, fun w hw => ?_⟩) hS ?_
              · rw [hs'.exec hoN]; exact hv w hw
              · exact vcDraw_sound hok hq hp S _ n _ _ w _ (hs'.put (operOk_dst hoN) v) hS hk
            · obtain ⟨v, hv, hk⟩ := rdOp_sound (AtS_good P fun _ => True) h
              refine wpAnyD_pure (v := v) ho' (Region.noSelect_spec (noSelect_of hok)) (noDefer_of hok) (fun c a w h => absurd h (hp c _ w)) n listed held S a w (Region.free_spec ho' hf) (by simpa using hc) (.inl ⟨hw, fun w hw => ?_⟩) hS ?_
              · rw [hs'.exec hoN]; exact hv w hw
              · exact vcDraw_sound hok hq hp S _ n _ _ w _ (hs'.put (operOk_dst hoN) v) hS hk
          · refine wpAnyD_pure (v := undef) ho' (Region.noSelect_spec (noSelect_of hok)) (noDefer_of hok) (fun c a w h => absurd h (hp c _ w)) n listed held S a w (Region.free_spec ho' hf) (by simpa using hc) (.inr ⟨hw, rfl⟩) hS ?_
            exact vcDraw_sound hok hq hp S _ n _ _ w _ (hs'.put (operOk_dst hoN) undef) hS h
        · exact h.elim
      · refine ⟨fun h0 => absurd h0 (fun e => hne e), fun i hi => ?_⟩
        have hx := conjL_all h i hi
        split at hx
        · rename_i o ho
          have hoN : operOk N o = true := List.all_eq_true.1 hok o (List.mem_of_getElem? ho)
          obtain ⟨ρ', hs', _, hw⟩ := guardK_of hs (guard_lt hok) hx
          unfold wpOpIn
          have ho' : ops.toArray[i]? = some o := by simpa using ho
          simp only [ho']
          rcases hw with ⟨hw, h⟩ | ⟨hw, h⟩
          · rw [if_pos hw]
            refine (Does_wp (operOk_defer hoN) (by rw [hs'.exec hoN]; exact efOp_sound h) fun v w' hk => ?_)
            cases hcv : cov ops i held with
            | true =>
              simp only [hcv] at hk
              obtain ⟨S', hS', hk⟩ := hk
              exact ⟨S', hS', .inl ⟨rfl, vcDraw_sound hok hq hp S' _ n _ _ w' _ (hs'.put (operOk_dst hoN) v) hS' hk⟩⟩
            | false =>
              simp only [hcv] at hk
              obtain ⟨S', hle, hS', hk⟩ := hk
              exact ⟨S', hS', .inr ⟨hle, vcDraw_sound hok hq hp S' _ n _ _ w' _ (hs'.put (operOk_dst hoN) v) hS' hk⟩⟩
          · rw [if_neg (by simp [hw])]
            exact ⟨fun _ _ => trivial, S, hS, .inr ⟨fun _ h => h, vcDraw_sound hok hq hp S _ n _ _ w _ (hs'.put (operOk_dst hoN) undef) hS h⟩⟩
        · exact hx.elim

/-! ### What a code does not write stays -/
theorem exLeaf_mono {d : TypeDesc} {K K' : Value → Prop} (hm : ∀ v, K v → K' v) (h : exLeaf d K) : exLeaf d K' := by
  unfold exLeaf at *
  cases d <;> (obtain ⟨b, h⟩ := h; exact ⟨b, hm _ h⟩)

mutual
theorem exCells_mono {P : Program} : ∀ (n : Nat) (t : TypeId) (K K' : List Value → Prop), (∀ l, K l → K' l) → exCells P n t K → exCells P n t K'
  | 0, _, _, _, _, h => by simp [exCells] at h
  | n + 1, t, K, K', hm, h => by
    unfold exCells at *
    split <;> simp_all only
    · exact exFields_mono n _ K K' hm h
    · obtain ⟨cs, h⟩ := h; exact ⟨cs, hm _ h⟩
    · exact exLeaf_mono (fun v hv => hm _ hv) h
theorem exFields_mono {P : Program} : ∀ (n : Nat) (fs : List Field) (K K' : List Value → Prop), (∀ l, K l → K' l) → exFields P n fs K → exFields P n fs K'
  | 0, _, _, _, _, h => by simp [exFields] at h
  | _ + 1, [], K, K', hm, h => by simp only [exFields] at *; exact hm _ h
  | n + 1, f :: fs, K, K', hm, h => by
    simp only [exFields] at *
    exact exCells_mono n f.type _ _ (fun a ha => exFields_mono n fs _ _ (fun b hb => hm _ hb) ha) h
end

theorem exTy_mono {P : Program} {t : TypeId} {K K' : Value → Prop} (hm : ∀ v, K v → K' v) (h : exTy P t K) : exTy P t K' := by
  unfold exTy at *
  split <;> simp_all only
  · exact exFields_mono _ _ _ _ (fun l hl => hm _ hl) h
  · obtain ⟨cs, h⟩ := h; exact ⟨cs, hm _ h⟩
  · exact exLeaf_mono hm h

theorem exTys_mono {P : Program} : ∀ (ts : List TypeId) (K K' : List Value → Prop), (∀ l, K l → K' l) → exTys P ts K → exTys P ts K'
  | [], _, _, hm, h => hm _ h
  | t :: ts, K, K', hm, h => by
    simp only [exTys] at *
    exact exTy_mono (fun v hv => exTys_mono ts _ _ (fun l hl => hm _ hl) hv) h

theorem exRes_mono {P : Program} {f : FuncId} {K K' : Value → Prop} (hm : ∀ v, K v → K' v) (h : exRes P f K) : exRes P f K' := by
  unfold exRes at *
  split <;> simp_all only
  split <;> simp_all only
  · exact exTy_mono hm h
  · exact exTys_mono _ _ _ (fun l hl => hm _ hl) h

theorem kEq_mono {k k' : IntKind} {A B : Prop} (hm : A → B) (h : kEq k k' A) : kEq k k' B := by
  unfold kEq at *
  split <;> simp_all

theorem brc_mono {t : Bool} {A B A' B' : Prop} (ha : A → A') (hb : B → B') (h : brc t A B) : brc t A' B' := by
  cases t
  · exact hb h
  · exact ha h

theorem optK_mono {α : Type} {p : Option α} {K K' : α → Prop} (hm : ∀ v, K v → K' v) (h : optK p K) : optK p K' := by
  cases p with
  | none => exact h
  | some a => exact hm _ h

theorem boundK_mono {x : Option Value} {d t : Nat} {K K' : Nat → Prop} (hm : ∀ v, K v → K' v) (h : boundK x d t K) : boundK x d t K' := by
  unfold boundK at *
  split <;> simp_all

theorem binV_mono {P : Program} {op : BinOp} {t : TypeId} {x y : Value} {E E' : Prop} {K K' : Value → Prop} (he : E → E') (hm : ∀ v, K v → K' v) (h : binV P op t x y E K) : binV P op t x y E' K' := by
  unfold binV at *
  split <;> simp only at h
  all_goals first
    | exact kEq_mono (hm _) h
    | exact ⟨h.1, hm _ h.2⟩
    | exact kEq_mono (fun h => ⟨h.1, hm _ h.2⟩) h
    | exact hm _ h
    | (split <;> simp_all)
    | exact he h

theorem minMaxV_mono {b : Bool} {l : List Value} {E E' : Prop} {K K' : Value → Prop} (he : E → E') (hm : ∀ v, K v → K' v) (h : minMaxV b l E K) : minMaxV b l E' K' := by
  unfold minMaxV at *
  split <;> simp only at h
  · exact kEq_mono (hm _) h
  · exact he (by simpa using h)

theorem rdOp_mono {P : Program} {E : List (Nat × TypeId)} {R : Rd} {ρ : Env} {op : Op} {ty : TypeId} {K K' : Value → Prop} (hm : ∀ v, K v → K' v) (h : rdOp P E R ρ op ty K) : rdOp P E R ρ op ty K' := by
  have fall : ∀ (t : TypeId) (m : Sem Value), (exTy P t fun v => R m v ∧ K v) → exTy P t fun v => R m v ∧ K' v := fun t m h => exTy_mono (fun v hv => ⟨hv.1, hm _ hv.2⟩) h
  cases op with
  | move x => exact hm _ h
  | assign x => exact hm _ h
  | pick c a b =>
    simp only [rdOp] at *
    split <;> simp_all only
    exact brc_mono (hm _) (hm _) h
  | load t x =>
    simp only [rdOp] at *
    split <;> simp_all only
  | nilCheck x =>
    simp only [rdOp] at *
    split <;> simp_all only
    exact optK_mono (fun a ha => hm _ ha) h
  | binOp o t x y yt => exact binV_mono (fun h => fall _ _ h) hm h
  | unOp o t x =>
    simp only [rdOp] at *
    split <;> simp_all only
  | fieldAddr s x f =>
    simp only [rdOp] at *
    split <;> simp_all only
  | indexAddr t x i =>
    simp only [rdOp] at *
    split <;> simp_all only
    · split <;> simp_all only
      exact ⟨⟨trivial, trivial⟩, optK_mono (fun a ha => hm _ ha) h.2⟩
    · split <;> simp_all only
      exact ⟨⟨trivial, trivial⟩, trivial⟩
  | extract x i =>
    simp only [rdOp] at *
    split <;> simp_all only
    split <;> simp_all only
  | makeFunc f a b => exact hm _ h
  | slice t x lo hi mx =>
    simp only [rdOp] at *
    split <;> simp_all only
    · split <;> simp_all only
      · exact boundK_mono (fun a ha => boundK_mono (fun b hb => hm _ hb) ha) h
      · split <;> simp_all only
        exact boundK_mono (fun a ha => boundK_mono (fun b hb => boundK_mono (fun c hc => hm _ hc) hb) ha) h
    · split <;> simp_all only
      exact boundK_mono (fun a ha => boundK_mono (fun b hb => hm _ hb) ha) h
  | convert s d x =>
    simp only [rdOp] at *
    split <;> simp_all only
  | lookup t x i ok =>
    simp only [rdOp] at *
    cases ok with
    | false => exact fall _ _ h
    | true => exact exTy_mono (fun v ⟨b, hr, hk⟩ => ⟨b, hr, hm _ hk⟩) h
  | entry x =>
    simp only [rdOp] at *
    split <;> simp_all only
    split <;> simp_all only
    split <;> simp_all only
    exact exTy_mono (fun u hu => exTy_mono (fun v hv => ⟨hv.1, hm _ hv.2⟩) hu) h
  | field t x f => exact fall _ _ h
  | index t x i => exact fall _ _ h
  | build t parts =>
    simp only [rdOp] at *
    cases hb : buildV P t (evp ρ parts) with
    | some cs => simp only [hb] at h ⊢; exact hm _ h
    | none => simp only [hb] at h ⊢; exact fall _ _ h
  | makeInterface t x => exact fall _ _ h
  | typeAssert x a b ok =>
    cases ok with
    | false => exact fall _ _ h
    | true => exact h
  | call c =>
    obtain ⟨callee, args, ats⟩ := c
    cases callee with
    | builtin b =>
      cases b with
      | len =>
        simp only [rdOp] at *
        split <;> simp_all only
        · split <;> simp_all only
        · split <;> simp_all only
      | cap => exact fall _ _ h
      | min => simp only [rdOp] at *; exact minMaxV_mono (fun h => fall _ _ h) hm h
      | max => simp only [rdOp] at *; exact minMaxV_mono (fun h => fall _ _ h) hm h
      | _ => exact h
    | _ => exact h
  | _ => exact h

theorem efOp_mono {P : Program} {ρ : Env} {op : Op} {ty : TypeId} {w : World} {K K' : Value → World → Prop} (hm : ∀ v w, K v w → K' v w) (h : efOp P ρ op ty w K) : efOp P ρ op ty w K' := by
  cases op with
  | alloc t => obtain ⟨a, w', hr, hk⟩ := h; exact ⟨a, w', hr, hm _ _ hk⟩
  | box t x => obtain ⟨a, w', hr, hk⟩ := h; exact ⟨a, w', hr, hm _ _ hk⟩
  | buildSlice t n parts => obtain ⟨a, w', hr, hk⟩ := h; exact ⟨a, w', hr, hm _ _ hk⟩
  | store t a x => obtain ⟨w', hr, hk⟩ := h; exact ⟨w', hr, hm _ _ hk⟩
  | mapUpdate t m k x => obtain ⟨w', hr, hk⟩ := h; exact ⟨w', hr, hm _ _ hk⟩
  | insert t m k x => obtain ⟨w', hr, hk⟩ := h; exact ⟨w', hr, hm _ _ hk⟩
  | makeMap t r => obtain ⟨a, w', hr, hk⟩ := h; exact ⟨a, w', hr, hm _ _ hk⟩
  | makeSlice t l c => obtain ⟨a, w', hr, hk⟩ := h; exact ⟨a, w', hr, hm _ _ hk⟩
  | convert s d x => obtain ⟨a, w', hr, hk⟩ := h; exact ⟨a, w', hr, hm _ _ hk⟩
  | range t x => obtain ⟨a, w', hr, hk⟩ := h; exact ⟨a, w', hr, hm _ _ hk⟩
  | next it s =>
    simp only [efOp] at *
    cases s with
    | true => exact h
    | false =>
      simp only [NextM] at *
      split <;> simp_all only
  | call c =>
    obtain ⟨callee, args, ats⟩ := c
    cases callee with
    | builtin b =>
      cases b with
      | append => obtain ⟨a, w', hr, hk⟩ := h; exact ⟨a, w', hr, hm _ _ hk⟩
      | copy => obtain ⟨a, w', hr, hk⟩ := h; exact ⟨a, w', hr, hm _ _ hk⟩
      | delete => obtain ⟨w', hr, hk⟩ := h; exact ⟨w', hr, hm _ _ hk⟩
      | _ => exact h
    | value f =>
      have hV : callV P (ev ρ f) (evs ρ args) w (fun e w' => exTy P ty fun v => e = .returned v ∧ K v w') → callV P (ev ρ f) (evs ρ args) w (fun e w' => exTy P ty fun v => e = .returned v ∧ K' v w') := by
        intro h
        unfold callV at *
        split <;> simp only [*] at h
        · exact ⟨h.1, h.2.mono fun e w' hk => exTy_mono (fun v hv => ⟨hv.1, hm _ _ hv.2⟩) hk⟩
        · obtain ⟨f', tmps, asg, b, w', hr, h⟩ := h
          exact ⟨f', tmps, asg, b, w', hr, h.mono fun e w' hk => exTy_mono (fun v hv => ⟨hv.1, hm _ _ hv.2⟩) hk⟩
      cases f with
      | func g =>
        simp only [efOp] at *
        split <;> simp_all only
        · exact h.mono fun e w' hk => exRes_mono (fun v hv => ⟨hv.1, hm _ _ hv.2⟩) hk
        · exact Does_mono hm h
      | tmp t => exact hV h
      | const v => exact hV h
      | global g => exact hV h
    | _ => exact h
  | _ => exact h

end Go.Proofs.Ytonjaaljnjjjcaa

/- 'vc' is sound: loops and whole codes; a call out of its body. Conditions: asg in V2. -/
set_option linter.unusedVariables false
set_option linter.unusedSimpArgs false
namespace Go.Proofs.Ytonjaaljnjjjcaa
open Go

theorem vcOp_mono {P : Program} {E : List (Nat × TypeId)} {ρ : Env} {o : Oper} {w : World} {K K' : Value → World → Prop} (hm : ∀ v w, K v w → K' v w) (h : vcOp P E ρ o w K) : vcOp P E ρ o w K' := by
  unfold vcOp at *
  split <;> simp_all only
  · exact rdOp_mono (fun v hv => hm _ _ hv) h
  · exact efOp_mono hm h

/-- All but what is written is asg it was. -/
def Agree (ws : List Nat) (ρ ρ' : Env) : Prop := ∀ i, i ∉ ws → ρ' i = ρ i

theorem Agree.refl (ws : List Nat) (ρ : Env) : Agree ws ρ ρ := fun _ _ => rfl
theorem Agree.trans {ws : List Nat} {a b c : Env} (h : Agree ws a b) (h' : Agree ws b c) : Agree ws a c := fun i hi => (h' i hi).trans (h i hi)
theorem Agree.mono {ws vs : List Nat} {a b : Env} (h : Agree ws a b) (hs : ∀ i, i ∈ ws → i ∈ vs) : Agree vs a b := fun i hi => h i fun h => hi (hs i h)
theorem Agree.put {ws : List Nat} {ρ ρ' : Env} {d : Option Nat} {v : Value} (hd : ∀ x, d = some x → x ∈ ws) (h : Agree ws (updO ρ d v) ρ') : Agree ws ρ ρ' := fun i hi => by
  rw [h i hi]
  cases d with
  | none => rfl
  | some d => exact upd_other fun e => hi (e ▸ hd d rfl)

theorem guardK_agree {ops : List Oper} {g : Option (Nat × Bool)} {ρ : Env} {yes no yes' no' : Env → Prop} (hy : ∀ ρ', (∀ i, ρ' i = ρ i) → yes ρ' → yes' ρ') (hn : ∀ ρ', (∀ i, ρ' i = ρ i) → no ρ' → no' ρ')
    (h : guardK ops g ρ yes no) : guardK ops g ρ yes' no' := by
  unfold guardK at *
  split <;> simp only at h
  · exact hy _ (fun _ => rfl) h
  · split <;> simp_all only
    rename_i d hd
    split
    case h_2 =>
      rename_i hnb
      refine hn _ (fun _ => rfl) ?_
      split at h
      · rename_i t ht; exact absurd ht (hnb t)
      · exact h
    rename_i t ht
    simp only [ht] at h
    have hsame : ∀ i, upd ρ d (.bool t) i = ρ i := fun i => by
      by_cases e : i = d
      · subst e; rw [upd_same, ht]
      · exact upd_other e
    split <;> simp_all only
    · cases t
      · exact hn _ hsame h
      · exact hy _ hsame h
    · cases t
      · exact hy _ hsame h
      · exact hn _ hsame h

theorem vcOps_agree {P : Program} {E : List (Nat × TypeId)} {ops : List Oper} {ws : List Nat} {ρ0 : Env} {K K' : Env → World → Prop} (hk : ∀ ρ w, Agree ws ρ0 ρ → K ρ w → K' ρ w) :
    ∀ (l : List Oper) (ρ : Env) (w : World), (∀ o ∈ l, ∀ x, o.dst = some x → x ∈ ws) → Agree ws ρ0 ρ → vcOps P E ops l ρ w K → vcOps P E ops l ρ w K'
  | [], _, _, _, ha, h => hk _ _ ha h
  | o :: rest, ρ, w, hl, ha, h => by
    simp only [vcOps] at *
    have hd := hl o List.mem_cons_self
    have hr : ∀ o ∈ rest, ∀ x, o.dst = some x → x ∈ ws := fun o ho => hl o (List.mem_cons_of_mem _ ho)
    have hput : ∀ (ρ' : Env) (v : Value), (∀ i, ρ' i = ρ i) → Agree ws ρ0 (updO ρ' o.dst v) := fun ρ' v hs =>
      ha.trans (fun i hi => by
        cases ho : o.dst with
        | none => exact hs i
        | some d => rw [updO, upd_other fun (e : i = d) => hi (by rw [e]; exact hd d ho)]; exact hs i)
    exact guardK_agree (fun ρ' hs h => vcOp_mono (fun v w' hv => vcOps_agree hk rest _ _ hr (hput ρ' v hs) hv) h) (fun ρ' hs h => vcOps_agree hk rest _ _ hr (hput ρ' undef hs) h) h

theorem conjL_mono {α : Type} {F G : α → Prop} : ∀ {l : List α}, (∀ x, F x → G x) → conjL F l → conjL G l
  | [], _, _ => trivial
  | [_], hm, h => hm _ h
  | _ :: y :: l, hm, h => ⟨hm _ h.1, conjL_mono (l := y :: l) hm h.2⟩

theorem vcDraw_agree {P : Program} {E : List (Nat × TypeId)} {ops : List Oper} {ws : List Nat} {ρ0 : Env} {K K' : Env → World → Prop} (hk : ∀ ρ w, Agree ws ρ0 ρ → K ρ w → K' ρ w) (hl : ∀ o ∈ ops, ∀ x, o.dst = some x → x ∈ ws) :
    ∀ (S : World → Prop) (held : List Nat) (n : Nat) (listed : Array Bool) (ρ : Env) (w : World), Agree ws ρ0 ρ → vcDraw P E ops S held n listed ρ w K → vcDraw P E ops S held n listed ρ w K'
  | S, held, 0, listed, ρ, w, ha, h => by
    unfold vcDraw at *
    split <;> simp_all only
  | S, held, n + 1, listed, ρ, w, ha, h => by
    have hput : ∀ (o : Oper) (ρ' : Env) (v : Value), o ∈ ops → (∀ i, ρ' i = ρ i) → Agree ws ρ0 (updO ρ' o.dst v) := fun o ρ' v ho hs =>
      ha.trans (fun i hi => by
        cases hd : o.dst with
        | none => exact hs i
        | some d => rw [updO, upd_other fun (e : i = d) => hi (by rw [e]; exact hl o ho d hd)]; exact hs i)
    unfold vcDraw at *
    generalize Region.ready .any ops.toArray listed = rs at h ⊢
    cases rs with
    | nil => exact hk _ _ ha h
    | cons x l =>
      dsimp only at h ⊢
      cases hf : firstRd P ops (x :: l) with
      | some i =>
        simp only [hf] at h ⊢
        cases ho : ops[i]? with
        | none => simp only [ho] at h
        | some o =>
          have hm := List.mem_of_getElem? ho
          cases hf1 : Region.free .any ops.toArray listed i with
          | false => simp only [ho, hf1] at h
          | true =>
            cases hf2 : (x :: l).contains i with
            | false => simp only [ho, hf1, hf2] at h
            | true =>
              simp only [ho, hf1, hf2] at h ⊢
              refine guardK_agree (fun ρ' hs h => ?_) (fun ρ' hs h => vcDraw_agree hk hl S held n _ _ _ (hput o ρ' undef hm hs) h) h
              cases hh : heldRd P o.op <;> simp only [hh] at h ⊢
              · exact rdOp_mono (fun v hv => vcDraw_agree hk hl S held n _ _ _ (hput o ρ' v hm hs) hv) h
              · exact rdOp_mono (fun v hv => vcDraw_agree hk hl S _ n _ _ _ (hput o ρ' v hm hs) hv) h
      | none =>
        simp only [hf] at h ⊢
        refine conjL_mono (fun i hi => ?_) h
        cases ho : ops[i]? with
        | none => simp only [ho] at hi
        | some o =>
          have hm := List.mem_of_getElem? ho
          simp only [ho] at hi ⊢
          refine guardK_agree (fun ρ' hs h => efOp_mono (fun v w' h => ?_) h) (fun ρ' hs h => vcDraw_agree hk hl S held n _ _ _ (hput o ρ' undef hm hs) h) hi
          cases hc : cov ops i held <;> simp only [hc] at h ⊢
          · obtain ⟨S', h1, h2, h3⟩ := h
            exact ⟨S', h1, h2, vcDraw_agree hk hl S' _ n _ _ _ (hput o ρ' v hm hs) h3⟩
          · obtain ⟨S', h2, h3⟩ := h
            exact ⟨S', h2, vcDraw_agree hk hl S' _ n _ _ _ (hput o ρ' v hm hs) h3⟩

def psOk (N : Nat) : List Nat → Bool
  | [] => true
  | p :: ps => Nat.blt p N && psOk N ps

def noRange : Code → Bool
  | .seq a b => noRange a && noRange b
  | .cond _ a b => noRange a && noRange b
  | .block _ c | .loop c | .scope c => noRange c
  | .rangeFunc .. => false
  | _ => true

theorem mem_writes_region {ops : Array Oper} {id : Nat} {b : Bool} : ∀ o ∈ ops.toList, ∀ x, o.dst = some x → x ∈ writes (.region id ops b) := fun o ho x hx =>
  List.mem_filterMap.2 ⟨o, ho, hx⟩

theorem memN_iff {l : List Nat} {i : Nat} : memN l i = true ↔ i ∈ l := by
  induction l with
  | nil => simp [memN]
  | cons x l ih =>
    unfold memN
    split
    · rename_i hb; simp [Nat.eq_of_beq_eq_true hb]
    · rename_i hb
      have hne : i ≠ x := fun e => by subst e; simp at hb
      simp [ih, hne]

theorem mix_agree (ws : List Nat) (g ρ : Env) : Agree ws ρ (mix ws g ρ) := fun i hi => by
  have : memN ws i = false := by
    cases h : memN ws i
    · rfl
    · exact absurd (memN_iff.1 h) hi
  simp [mix, this]

theorem getV_mono {k : Kd} {v : Value} {F G : k.T → Prop} (hm : ∀ x, F x → G x) (h : getV k v F) : getV k v G := by
  cases k <;> cases v <;> first
    | exact hm _ h
    | exact h
    | exact kEq_mono (hm _) h
    | exact optK_mono hm h

theorem getK_mono : ∀ {l : List (Nat × Kd)} {ρ : Env} {F G : Slots l → Prop}, (∀ s, F s → G s) → getK l ρ F → getK l ρ G
  | [], _, _, _, hm, h => hm _ h
  | _ :: l, _, _, _, hm, h => getV_mono (fun _ hx => getK_mono (l := l) (fun _ hs => hm _ hs) hx) h

theorem getV_of {k : Kd} {v : Value} {F : k.T → Prop} (h : getV k v F) : ∃ x, F x ∧ k.toV x = v := by
  cases k <;> cases v <;> first
    | (obtain ⟨rfl, h'⟩ := kEq_of h; exact ⟨_, h', rfl⟩)
    | (obtain ⟨x, rfl, h'⟩ := optK_of h; exact ⟨x, h', rfl⟩)
    | exact (h : False).elim
    | exact ⟨_, h, rfl⟩

theorem getK_of : ∀ {l : List (Nat × Kd)} {ρ : Env} {F : Slots l → Prop}, getK l ρ F → ∃ s, F s ∧ ∀ i, putK l s ρ i = ρ i
  | [], _, _, h => ⟨(), h, fun _ => rfl⟩
  | x :: l, ρ, F, h => by
    obtain ⟨v, h, hv⟩ := getV_of h
    obtain ⟨s, h, hs⟩ := getK_of h
    refine ⟨(v, s), h, fun i => ?_⟩
    simp only [putK]
    by_cases e : i = x.1
    · subst e; rw [upd_same, hv]
    · rw [upd_other e, hs i]

theorem LoopT_mono {σ : Type} {step step' : σ → World → (σ → World → Prop) → Prop} (hm : ∀ s w K, step s w K → step' s w K) {s : σ} {w : World} (h : LoopT step s w) : LoopT step' s w := by
  obtain ⟨I, n, hI, hst⟩ := h
  exact ⟨I, n, hI, fun n s w' h => hm _ _ _ (hst n s w' h)⟩

theorem vc_agree {P : Program} {E : List (Nat × TypeId)} {N : Nat} {ann : Ann} : ∀ (c : Code) (ws : List Nat) (ρ0 : Env) (Q Q' : Post) (ρ : Env) (w : World), noRange c = true → (∀ i, i ∈ writes c → i ∈ ws) → Agree ws ρ0 ρ →
    (∀ ρ w, Agree ws ρ0 ρ → Q.nrm ρ w → Q'.nrm ρ w) → (∀ ρ w, Agree ws ρ0 ρ → Q.ret ρ w → Q'.ret ρ w) → (∀ i ρ w, Agree ws ρ0 ρ → Q.exit i ρ w → Q'.exit i ρ w) → vc P E N ann c Q ρ w → vc P E N ann c Q' ρ w := by
  intro c
  induction c with
  | skip => intro ws ρ0 Q Q' ρ w _ _ ha h1 _ _ h; exact h1 _ _ ha h
  | region id ops b =>
    intro ws ρ0 Q Q' ρ w _ hw ha h1 _ _ h
    cases b with
    | false =>
      simp only [vc] at *
      exact vcOps_agree h1 ops.toList ρ w (fun o ho x hx => hw x (mem_writes_region (id := id) (b := false) o ho x hx)) ha h
    | true =>
      simp only [vc] at *
      obtain ⟨S, hS, h⟩ := h
      exact ⟨S, hS, vcDraw_agree h1 (fun o ho x hx => hw x (mem_writes_region (id := id) (b := true) o ho x hx)) _ _ _ _ _ _ ha h⟩
  | seq a b iha ihb =>
    intro ws ρ0 Q Q' ρ w hr hw ha h1 h2 h3 h
    simp only [noRange, Bool.and_eq_true] at hr
    simp only [vc] at *
    exact iha ws ρ0 ⟨fun ρ w => vc P E N ann b Q ρ w, Q.ret, Q.exit⟩ ⟨fun ρ w => vc P E N ann b Q' ρ w, Q'.ret, Q'.exit⟩ ρ w hr.1 (fun i hi => hw i (List.mem_append_left _ hi)) ha
      (fun ρ w ha h => ihb ws ρ0 Q Q' ρ w hr.2 (fun i hi => hw i (List.mem_append_right _ hi)) ha h1 h2 h3 h) h2 h3 h
  | cond x a b iha ihb =>
    intro ws ρ0 Q Q' ρ w hr hw ha h1 h2 h3 h
    simp only [noRange, Bool.and_eq_true] at hr
    simp only [vc] at *
    split <;> simp_all only
    exact brc_mono (iha ws ρ0 Q Q' ρ w trivial (fun i hi => hw i (List.mem_append_left _ hi)) ha h1 h2 h3) (ihb ws ρ0 Q Q' ρ w trivial (fun i hi => hw i (List.mem_append_right _ hi)) ha h1 h2 h3) h
  | block id c ih =>
    intro ws ρ0 Q Q' ρ w hr hw ha h1 h2 h3 h
    simp only [vc] at *
    refine ih ws ρ0 ⟨Q.nrm, Q.ret, fun i ρ w => match Nat.beq i id with | true => Q.nrm ρ w | false => Q.exit i ρ w⟩ ⟨Q'.nrm, Q'.ret, fun i ρ w => match Nat.beq i id with | true => Q'.nrm ρ w | false => Q'.exit i ρ w⟩ ρ w hr hw ha h1 h2 (fun i ρ w ha h => ?_) h
    dsimp only at *
    cases hb : Nat.beq i id <;> simp only [hb] at h ⊢
    · exact h3 _ _ _ ha h
    · exact h1 _ _ ha h
  | loop c ih =>
    intro ws ρ0 Q Q' ρ w hr hw ha h1 h2 h3 h
    simp only [vc] at *
    refine getK_mono (fun s h => LoopT_mono (fun s w K h g => ?_) h) h
    exact ih ws ρ0 ⟨_, Q.ret, Q.exit⟩ ⟨_, Q'.ret, Q'.exit⟩ _ w hr hw (ha.trans ((mix_agree (writes c) _ ρ).mono hw)) (fun _ _ _ h => h) h2 h3 (h g)
  | exit id => intro ws ρ0 Q Q' ρ w _ _ ha _ _ h3 h; exact h3 _ _ _ ha h
  | scope c ih => intro ws ρ0 Q Q' ρ w _ _ _ _ _ _ h; exact h.elim
  | label l => intro ws ρ0 Q Q' ρ w _ _ ha h1 _ _ h; exact h1 _ _ ha h
  | goto l => intro ws ρ0 Q Q' ρ w _ _ _ _ _ _ h; exact h.elim
  | ret => intro ws ρ0 Q Q' ρ w _ _ ha _ h2 _ h; exact h2 _ _ ha h
  | refuse y => intro ws ρ0 Q Q' ρ w _ _ _ _ _ _ h; exact h.elim
  | rangeFunc f ps asg b => intro ws ρ0 Q Q' ρ w hr; cases hr

theorem Shows.of_eq {N : Nat} {a : Act} {ρ ρ' : Env} (h : Shows N a ρ) (he : ∀ i, ρ' i = ρ i) : Shows N a ρ' := ⟨h.size, fun i hi => by rw [he i]; exact h.get i hi, by rw [he N]; exact h.defers⟩

theorem postOf_then {N : Nat} {Q : Post} {nrm : Env → World → Prop} {next : Act → World → Prop} (hn : ∀ ρ w a, Shows N a ρ → nrm ρ w → next a w) :
    ∀ e a w, postOf N ⟨nrm, Q.ret, Q.exit⟩ e a w → Exit.then next (postOf N Q) e a w := by
  intro e a w h
  cases e with
  | normal => obtain ⟨ρ, hs, h⟩ := h; exact hn ρ w a hs h
  | _ => exact h

/-- A loop: an invariant that bears a number, which every round lowers. -/
theorem wpIn_loop_ghost {F : Fence} {n : Nat} {P : Program} {Q : Exit → Act → World → Prop} {a : Act} {w : World} {c : Code} (I : Nat → Act → World → Prop) (n₀ : Nat) (h₀ : I n₀ a w)
    (round : ∀ k a w, I k a w → c.wpIn F n P (Exit.then (fun a' w' => ∃ n', n' < k ∧ I n' a' w') Q) a w) : (Code.loop c).wpIn F n P Q a w := by
  refine wpIn_loop (fun a w => ∃ n, I n a w) (fun a w => leastOf (fun n => I n a w)) ⟨n₀, h₀⟩ ?_
  intro a w hI
  refine wpIn_mono (round _ a w (leastOf_spec hI).1) ?_
  intro e a' w' hq
  cases e with
  | normal =>
    obtain ⟨n', hlt, hI'⟩ := hq
    exact show (∃ n, I n a' w') ∧ leastOf (fun n => I n a' w') < leastOf (fun n => I n a w) from ⟨⟨n', hI'⟩, Nat.lt_of_le_of_lt ((leastOf_spec ⟨n', hI'⟩).2 n' hI') hlt⟩
  | exit id => exact hq
  | goto l => exact hq
  | ret => exact hq
  | panic ch => exact hq
  | outgrown => exact hq

/-- Loops, and rounds, without a range over a function within, under a check on each. -/
def loopsOk (N : Nat) : Code → Bool
  | .seq a b | .cond _ a b => loopsOk N a && loopsOk N b
  | .block _ c | .scope c => loopsOk N c
  | .loop c => noRange c && loopsOk N c
  | .rangeFunc g ps a b => operandOk N g && psOk N ps.toList && noRange a && noRange b && codeOk N a && codeOk N b && loopsOk N a && loopsOk N b
  | _ => true

theorem setPs_shows {P : Program} {E : List (Nat × TypeId)} {N : Nat} {K : List Value → Env → Prop} : ∀ (ps : List Nat) (ρ : Env) (tmps : Array Value), psOk N ps = true → tmps.size = N → (∀ i, i < N → tmps.getD i undef = ρ i) → ρ N = undef →
    (∀ args ρ', args.length = ps.length → Shows N { tmps := (ps.zip args).foldl (fun tmps (t, a) => tmps.setIfInBounds t a) tmps, defers := [] } ρ' → K args ρ') → allArgs P E ps ρ K
  | [], ρ, tmps, _, hs, hg, hN, h => h [] ρ rfl ⟨hs, hg, by rw [hN]; rfl⟩
  | p :: ps, ρ, tmps, hok, hs, hg, hN, h => by
    simp only [psOk, Bool.and_eq_true] at hok
    have hp : p < N := Nat.blt_eq ▸ hok.1
    unfold allArgs
    split
    · refine allTy_of fun v => ?_
      refine setPs_shows ps (upd ρ p v) (tmps.setIfInBounds p v) hok.2 (by simp [hs]) (fun i hi => ?_) (by rw [upd_other (Nat.ne_of_gt hp)]; exact hN) fun args ρ' hl hsh => h (v :: args) ρ' (by simp [hl]) hsh
      by_cases e : i = p
      · subst e
        rw [upd_same]
        simp [hs, hi]
      · rw [upd_other e, ← hg i hi]
        simp [Array.getElem?_setIfInBounds_ne (Ne.symm e)]
    · trivial

theorem vc_sound {P : Program} {E : List (Nat × TypeId)} {N : Nat} {ann : Ann} (hm : P.follows .mixedOrders = true) : ∀ (c : Code) (r : Option Nat) (Q : Post) (ρ : Env) (w : World) (a : Act), (r = none ∨ noRange c = true) → codeOk N c = true → loopsOk N c = true → Shows N a ρ → vc P E N ann c Q ρ w → c.wpIn (Fr r) 0 P (postOf N Q) a w := by
  intro c
  induction c with
  | skip => intro r Q ρ w a _ _ _ hs h; exact wpIn_skip ⟨ρ, hs, h⟩
  | region id ops b =>
    intro r Q ρ w a _ hok _ hs h
    have hok' : ops.toList.all (operOk N) = true := hok
    cases b with
    | false =>
      refine wpIn_region_list ?_
      exact vcOps_sound hok' ops.toList ρ w a Q.nrm _ (List.all_eq_true.1 hok') hs h (fun ρ w a hs hk => ⟨ρ, hs, hk⟩)
    | true =>
      obtain ⟨S, hS, h⟩ := h
      refine wpIn_region_any hm (wpAny_of_D _ _ [] S _ _ ?_)
      have := vcDraw_sound (r := r) (Q := postOf N Q) hok' (fun ρ w a hs hk => ⟨ρ, hs, hk⟩) (fun c a w h => h) _ _ _ _ ρ _ a hs hS h
      simpa using this
  | seq x y ihx ihy =>
    intro r Q ρ w a hr hok hl hs h
    simp only [codeOk, loopsOk, noRange, Bool.and_eq_true] at hok hl hr
    refine wpIn_seq (wpIn_mono (ihx r _ ρ w a (hr.imp id (·.1)) hok.1 hl.1 hs h) ?_)
    exact postOf_then (Q := Q) fun ρ w a hs h => ihy r Q ρ w a (hr.imp id (·.2)) hok.2 hl.2 hs h
  | cond x y z ihy ihz =>
    intro r Q ρ w a hr hok hl hs h
    simp only [codeOk, loopsOk, noRange, Bool.and_eq_true] at hok hl hr
    simp only [vc] at h
    split at h
    · rename_i t ht
      have he : a.eval x = .bool t := by rw [hs.ev hok.1.1, ht]
      refine wpIn_cond_split he (fun h1 => ?_) (fun h1 => ?_)
      · subst h1; exact ihy r Q ρ w a (hr.imp id (·.1)) hok.1.2 hl.1 hs h
      · subst h1; exact ihz r Q ρ w a (hr.imp id (·.2)) hok.2 hl.2 hs h
    · exact h.elim
  | block id c ih =>
    intro r Q ρ w a hr hok hl hs h
    simp only [vc] at h
    refine wpIn_block (wpIn_mono (ih r _ ρ w a hr hok hl hs h) fun e a w h => ?_)
    cases e with
    | exit i =>
      obtain ⟨ρ, hs, h⟩ := h
      simp only [Exit.inBlock]
      by_cases hi : i = id
      · subst hi
        rw [if_pos rfl]
        simp at h
        exact ⟨ρ, hs, h⟩
      · rw [if_neg hi]
        have hb : Nat.beq i id = false := by
          cases hb : Nat.beq i id
          · rfl
          · exact absurd (Nat.eq_of_beq_eq_true hb) hi
        simp only [hb] at h
        exact ⟨ρ, hs, h⟩
    | _ => exact h
  | loop c ih =>
    intro r Q ρ w a hr hok hl hs h
    simp only [loopsOk, Bool.and_eq_true] at hl
    obtain ⟨s0, ⟨I, n, hI, hst⟩, hs0⟩ := getK_of h
    have hmix : ∀ g, Agree (writes c) ρ g → ∀ i, mix (writes c) g ρ i = g i := fun g hg i => by
      unfold mix
      cases hb : memN (writes c) i with
      | true => rfl
      | false => exact (hg i (fun hm => by rw [memN_iff.2 hm] at hb; cases hb)).symm
    refine wpIn_loop_ghost (fun n a w => ∃ g s, Shows N a (mix (writes c) g ρ) ∧ I n s w ∧ ∀ i, putK _ s g i = g i) n ⟨ρ, s0, hs.of_eq (hmix ρ (Agree.refl _ _)), hI, hs0⟩ ?_
    rintro n a w ⟨g, s, hs, hg, hput⟩
    have h1 := hst n s w hg g
    have hgg : putK (annOf ann (firstRegion c)) s g = g := funext hput
    rw [hgg] at h1
    have h2 := vc_agree (P := P) (E := E) (N := N) c (writes c) ρ ⟨fun ρ'' w'' => getK (annOf ann (firstRegion c)) ρ'' fun s' => ∃ n', n' < n ∧ I n' s' w'', Q.ret, Q.exit⟩ ⟨fun ρ'' w'' => Agree (writes c) ρ ρ'' ∧ getK (annOf ann (firstRegion c)) ρ'' fun s' => ∃ n', n' < n ∧ I n' s' w'', Q.ret, Q.exit⟩ (mix (writes c) g ρ) w hl.1 (fun _ h => h) (mix_agree _ _ _)
      (fun _ _ ha h => ⟨ha, h⟩) (fun _ _ _ h => h) (fun _ _ _ _ h => h) h1
    refine wpIn_mono (ih r _ _ w a (.inr hl.1) hok hl.2 hs h2) ?_
    refine postOf_then (Q := Q) fun ρ'' w a hs ⟨ha, hk⟩ => ?_
    obtain ⟨s', ⟨n', hlt, hI⟩, hs'⟩ := getK_of hk
    exact ⟨n', hlt, ρ'', s', hs.of_eq (hmix ρ'' ha), hI, hs'⟩
  | exit id => intro r Q ρ w a _ _ _ hs h; exact wpIn_exit ⟨ρ, hs, h⟩
  | scope c ih => intro r Q ρ w a _ _ _ hs h; exact h.elim
  | label l => intro r Q ρ w a _ _ _ hs h; exact wpIn_label ⟨ρ, hs, h⟩
  | goto l => intro r Q ρ w a _ _ _ hs h; exact h.elim
  | ret => intro r Q ρ w a _ _ _ hs h; exact wpIn_ret ⟨ρ, hs, h⟩
  | refuse y => intro r Q ρ w a _ _ _ hs h; exact h.elim
  | rangeFunc g ps asg b iha ihb =>
    intro r Q ρ w a hr _ hl hs h
    rcases hr with rfl | hr
    case inr => cases hr
    simp only [loopsOk, Bool.and_eq_true] at hl
    obtain ⟨⟨⟨⟨⟨⟨⟨hl1, hl2⟩, hl3⟩, hl4⟩, hl5⟩, hl6⟩, hl7⟩, hl8⟩ := hl
    simp only [vc] at h
    unfold rangeV at h
    split at h
    case h_2 => exact h.elim
    rename_i gf first lb hg
    obtain ⟨hp, h⟩ := h
    have hev : a.eval g = .func (.func gf) first lb := by rw [hs.ev hl1, hg]
    refine wpIn_rangeFunc fun fn _ => ?_
    let X : LB := ⟨fn, a.tmps, ps, asg, b⟩
    let w1 := (w.alloc (.deferred (some []))).alloc (X.loop w.heap.size .ready none)
    refine ⟨w.heap.size + 1, [{ target := .collected w.heap.size, args := #[] }], w1, { target := .fn (.func gf) lb, args := first ++ #[Value.func (.yield (w.heap.size + 1)) #[] #[]] }, w1, gf, (first.toList ++ [Value.func (.yield (w.heap.size + 1)) #[] #[]] ++ lb.toList).toArray, w1, run_enterLoop_outer _ _ _ _ _, ?_, fun _ _ => trivial, ?_, (fun h => by cases h), ?_⟩
    · simp only [resolve, hev, Deferred.ofValue]
      simp
      rfl
    · have he : (first.toList ++ [Value.func (.yield (w.heap.size + 1)) #[] #[]] ++ lb.toList).toArray = (first ++ #[Value.func (.yield (w.heap.size + 1)) #[] #[]]) ++ lb := by
        apply Array.ext'
        simp
      rw [he]
      simp only [invoke]
      exact callFunc_plain hp _ _
    · have hc := h X (w.heap.size + 1) w.heap.size w1 ⟨rfl, rfl, rfl⟩ ?_
      · refine CallsIn.mono (F := Fr none) ((callsIn_wide (n := 0)).2 hc) ?_
        rintro e w3 ⟨⟨v, rfl⟩, st, pe, hl, hst, hm⟩
        have hsh : Shows N { a with defers := [{ target := .collected w.heap.size, args := #[] }] ++ a.defers } (upd ρ N (mark (ρ N) w.heap.size)) := by
          refine ⟨hs.size, fun i hi => by rw [upd_other (Nat.ne_of_lt hi)]; exact hs.get i hi, ?_⟩
          rw [upd_same]
          show _ :: a.defers = _
          rw [hs.defers]
          unfold mark
          split
          · rename_i vs hv
            rw [hv]
            simp [dsOf, markOf]
          · rename_i hn
            have : dsOf (ρ N) = [] := by
              unfold dsOf
              split
              · rename_i vs hv; exact absurd hv (hn vs)
              · rfl
            rw [this]
            simp [dsOf, markOf]
        refine ⟨pe, _, run_endLoop hl (by simpa using hst), ?_⟩
        cases pe with
        | none => exact ⟨_, hsh, hm⟩
        | some c =>
          cases c with
          | ret => exact wpIn_ret ⟨_, hsh, hm⟩
          | exit id =>
            cases hx : exitsOut [] b with
            | true =>
              rw [hx] at hm
              exact wpIn_exit ⟨_, hsh, hm⟩
            | false =>
              rw [hx] at hm
              exact (hm : False).elim
          | _ => exact hm.elim
      · refine setPs_shows ps.toList (upd ρ N undef) a.tmps hl2 hs.size (fun i hi => by rw [upd_other (Nat.ne_of_lt hi)]; exact hs.get i hi) (upd_same _ _ _) fun args ρ' hlen hsh w' R hB => ⟨by simpa using hlen, ?_⟩
        have hz : (ps.zip args.toArray).foldl (fun tmps (t, a) => tmps.setIfInBounds t a) a.tmps = (ps.toList.zip args).foldl (fun tmps (t, a) => tmps.setIfInBounds t a) a.tmps := by
          rw [← Array.foldl_toList]
          simp
        show asg.wpIn _ 0 P _ { tmps := (ps.zip args.toArray).foldl (fun tmps (t, a) => tmps.setIfInBounds t a) a.tmps, defers := [] } w'
        rw [hz]
        refine wpIn_mono (iha (some (w.heap.size + 1)) _ ρ' w' _ (.inr hl3) hl5 hl7 hsh hB) ?_
        intro e a1 w1 hq
        cases e with
        | normal =>
          obtain ⟨ρ1, hs1, w2, hb, hq⟩ := hq
          refine ⟨w2, hb, wpIn_mono (ihb (some (w.heap.size + 1)) _ ρ1 w2 a1 (.inr hl4) hl6 hl8 hs1 hq) ?_⟩
          intro e a2 w3 hq
          cases e with
          | normal => obtain ⟨_, _, hq⟩ := hq; exact hq
          | ret => obtain ⟨_, _, hq⟩ := hq; exact hq
          | exit i => obtain ⟨_, _, hq⟩ := hq; exact hq
          | _ => exact hq
        | ret => obtain ⟨_, _, hq⟩ := hq; exact hq
        | exit i => obtain ⟨_, _, hq⟩ := hq; exact hq
        | _ => exact hq

end Go.Proofs.Ytonjaaljnjjjcaa

/- A call out of 'vc' of its body. Conditions: the program follows mixed orders; the checks on the code. -/
set_option linter.unusedVariables false
set_option linter.unusedSimpArgs false
namespace Go.Proofs.Ytonjaaljnjjjcaa
open Go

def envL : List Value → Env
  | [], _ => undef
  | v :: _, 0 => v
  | _ :: l, i + 1 => envL l i

def resL (P : Program) (w : World) : List ResultVar → Env → (List Value → Prop) → Prop
  | [], _, K => K []
  | .tmp t :: rs, ρ, K => resL P w rs ρ fun vs => K (ρ t :: vs)
  | .cell a t :: rs, ρ, K => match ρ a with
    | .pointer (some p) => exTy P t fun v => At P w (loadVar t p) v ∧ resL P w rs ρ fun vs => K (v :: vs)
    | _ => False

def oneOf : List Value → Value
  | [] => .tuple #[]
  | [v] => v
  | vs => .tuple vs.toArray

def resOk (N : Nat) : List ResultVar → Bool
  | [] => true
  | .tmp t :: rs => Nat.blt t N && resOk N rs
  | .cell a _ :: rs => Nat.blt a N && resOk N rs

def resF (tmps : Array Value) : ResultVar → Sem Value
  | .tmp t => pure (tmps.getD t undef)
  | .cell x t => do loadVar t (← asAddr (tmps.getD x undef))

theorem resL_sound {P : Program} {N : Nat} {w : World} {a : Act} {ρ : Env} (hs : Shows N a ρ) : ∀ (rs : List ResultVar) (K : List Value → Prop), resOk N rs = true → resL P w rs ρ K →
    ∃ vs, (rs.mapM (resF a.tmps)).run P w = .ok vs w ∧ K vs
  | [], K, _, h => ⟨[], by simp, h⟩
  | .tmp t :: rs, K, hok, h => by
    simp only [resOk, Bool.and_eq_true] at hok
    obtain ⟨vs, hr, hk⟩ := resL_sound hs rs _ hok.2 h
    have ht := hs.get t (Nat.blt_eq ▸ hok.1 : t < N)
    have he : (resF a.tmps (.tmp t)).run P w = .ok (ρ t) w := by simp only [resF, Sem.run_pure, ht]
    exact ⟨_, by simp only [List.mapM_cons, Sem.run_bind, he, hr, Result.andThen_ok, Sem.run_pure], hk⟩
  | .cell x t :: rs, K, hok, h => by
    simp only [resOk, Bool.and_eq_true] at hok
    have ht := hs.get x (Nat.blt_eq ▸ hok.1 : x < N)
    simp only [resL] at h
    split at h
    · rename_i p hp
      obtain ⟨v, hv, h⟩ := exTy_ex h
      obtain ⟨vs, hr, hk⟩ := resL_sound hs rs _ hok.2 h
      have hv' : (loadVar t p).run P w = .ok v w := hv
      have he : (resF a.tmps (.cell x t)).run P w = .ok v w := by simp only [resF, ht, hp, asAddr, Sem.run_bind, Sem.run_pure, Result.andThen_ok, hv']
      exact ⟨_, by simp only [List.mapM_cons, Sem.run_bind, he, hr, Result.andThen_ok, Sem.run_pure], hk⟩
    · exact h.elim

theorem results_sound {P : Program} {N : Nat} {w : World} {a : Act} {ρ : Env} (hs : Shows N a ρ) {fn : Func} {K : Value → Prop} (hok : resOk N fn.results.toList = true) (h : resL P w fn.results.toList ρ fun vs => K (oneOf vs)) :
    ∃ v, (results fn a.tmps).run P w = .ok v w ∧ K v := by
  obtain ⟨vs, hr, hk⟩ := resL_sound hs _ _ hok h
  refine ⟨_, ?_, hk⟩
  have he : results fn a.tmps = (do
    let vs ← fn.results.mapM (resF a.tmps)
    pure (if h : vs.size = 1 then vs[0] else .tuple vs)) := rfl
  rw [he, Array.mapM_eq_mapM_toList]
  simp only [Sem.run_bind, Sem.run_map, hr, Result.andThen_ok, Sem.run_pure]
  congr 1
  match vs with
  | [] => rfl
  | [v] => rfl
  | v :: u :: l => simp [oneOf]

theorem envL_none : ∀ (l : List Value) (n : Nat), l.length ≤ n → envL l n = undef
  | [], n, _ => by cases n <;> rfl
  | _ :: l, 0, h => by simp at h
  | _ :: l, n + 1, h => envL_none l n (by simpa using h)

theorem shows_enter {args : List Value} {n : Nat} (hn : args.length ≤ n) :
    Shows n { tmps := args.toArray ++ Array.replicate (n - args.toArray.size) undef, defers := [] } (envL args) := by
  refine ⟨by simp; omega, fun i hi => ?_, by rw [envL_none _ _ hn]; rfl⟩
  have h1 : ∀ (l : List Value) (i : Nat), envL l i = l.getD i undef := by
    intro l
    induction l with
    | nil => intro i; rfl
    | cons v l ih =>
      intro i
      cases i with
      | zero => rfl
      | succ i => simp [envL, ih]
  rw [h1]
  simp only [Array.getD_eq_getD_getElem?, Array.getElem?_append, List.getD_eq_getElem?_getD]
  split
  · simp
  · rename_i hlt
    have : args.length ≤ i := by simpa using hlt
    rw [List.getElem?_eq_none this]
    simp [Array.getElem?_replicate]
    split <;> rfl

/-- The marks that a function leaves with: each block for deferred calls is empty, and is shut. -/
def endMark1 (v : Value) (w : World) (K : World → Prop) : Prop := match v with
  | .int _ n => w.heap[n.toNat]? = some (.deferred (some [])) ∧ K (w.putObj n.toNat (.deferred none))
  | _ => False
def endMarks : List Value → World → (World → Prop) → Prop
  | [], w, K => K w
  | v :: l, w, K => endMark1 v w fun w => endMarks l w K
def endV (v : Value) (w : World) (K : World → Prop) : Prop := match v with
  | .tuple vs => endMarks vs.toList w K
  | _ => K w

theorem leaves_of {P : Program} {fn : Func} {tmps : Array Value} {R : Ending → World → Prop} : ∀ (l : List Value) (w : World), endMarks l w (fun w => ∃ v, (results fn tmps).run P w = .ok v w ∧ R (.returned v) w) → LeavesInM (Fr none) 0 P fn tmps R (l.map markOf) .returning w
  | [], w, h => h
  | v :: l, w, h => by
    simp only [endMarks, endMark1] at h
    split at h
    · rename_i n
      exact ⟨by simp, .inl ⟨n.toNat, _, rfl, run_takeDeferred h.1, leaves_of l _ h.2⟩⟩
    · exact h.elim

theorem leaves_end {P : Program} {fn : Func} {tmps : Array Value} {R : Ending → World → Prop} {v : Value} {w : World} (h : endV v w (fun w => ∃ v, (results fn tmps).run P w = .ok v w ∧ R (.returned v) w)) : LeavesInM (Fr none) 0 P fn tmps R (dsOf v) .returning w := by
  cases v with
  | tuple vs => exact leaves_of _ _ h
  | _ => exact h

theorem endMarks_mono {K K' : World → Prop} (hm : ∀ w, K w → K' w) : ∀ (l : List Value) (w : World), endMarks l w K → endMarks l w K'
  | [], _, h => hm _ h
  | v :: l, w, h => by
    simp only [endMarks, endMark1] at *
    split at h
    · exact ⟨h.1, endMarks_mono hm _ _ h.2⟩
    · exact h.elim

theorem endV_mono {K K' : World → Prop} (hm : ∀ w, K w → K' w) {v : Value} {w : World} (h : endV v w K) : endV v w K' := by
  cases v with
  | tuple vs => exact endMarks_mono hm _ _ h
  | _ => exact hm _ h

/-- The contract of a function with ranges over functions, out of 'vc' of its body. -/
theorem calls_of_vcR {P : Program} {f : FuncId} {fn : Func} {c : Code} {args : List Value} {w : World} {R : Ending → World → Prop} {ann : Ann} {E : List (Nat × TypeId)} (hm : P.follows .mixedOrders = true)
    (hf : P.funcs[f]? = some fn) (hb : fn.body = some c)
    (hok : (codeOk fn.ntmps c && loopsOk fn.ntmps c && resOk fn.ntmps fn.results.toList && Nat.ble args.length fn.ntmps) = true)
    (h : vc P E fn.ntmps ann c ⟨fun ρ w => endV (ρ fn.ntmps) w fun w => resL P w fn.results.toList ρ fun vs => R (.returned (oneOf vs)) w, fun ρ w => endV (ρ fn.ntmps) w fun w => resL P w fn.results.toList ρ fun vs => R (.returned (oneOf vs)) w, fun _ _ _ => False⟩ (envL args) w) :
    Calls P f args.toArray w R := by
  simp only [Bool.and_eq_true] at hok
  obtain ⟨⟨⟨h1, h2⟩, h3⟩, h4⟩ := hok
  refine callsIn_wide.1 (callsIn_of_wp_marks (F := Fr none) (n := 0) hf hb trivial (wpIn_mono (vc_sound hm c none _ _ _ _ (.inl rfl) h1 h2 (shows_enter (Nat.le_of_ble_eq_true h4)) h) fun e a w h => ?_))
  have fin : ∀ ρ : Env, Shows fn.ntmps a ρ → (endV (ρ fn.ntmps) w fun w => resL P w fn.results.toList ρ fun vs => R (.returned (oneOf vs)) w) → LeavesInM (Fr none) 0 P fn a.tmps R a.defers .returning w := by
    intro ρ hs h
    rw [hs.defers]
    exact leaves_end (endV_mono (fun w h => results_sound (K := fun v => R (.returned v) w) hs h3 h) h)
  cases e with
  | normal => obtain ⟨ρ, hs, h⟩ := h; exact fin ρ hs h
  | ret => obtain ⟨ρ, hs, h⟩ := h; exact fin ρ hs h
  | exit i => obtain ⟨ρ, hs, h⟩ := h; exact h.elim
  | goto l => exact h.elim
  | panic c => exact h.elim
  | outgrown => exact h.elim

theorem writes_lt {N : Nat} : ∀ c : Code, codeOk N c = true → ∀ i ∈ writes c, i < N := by
  intro c
  induction c with
  | region id ops b =>
    intro h i hi
    obtain ⟨o, ho, hd⟩ := List.mem_filterMap.1 hi
    exact operOk_dst (List.all_eq_true.1 h o ho) i hd
  | seq a b iha ihb =>
    intro h i hi
    simp only [codeOk, Bool.and_eq_true] at h
    rcases List.mem_append.1 hi with hi | hi
    · exact iha h.1 i hi
    · exact ihb h.2 i hi
  | cond x a b iha ihb =>
    intro h i hi
    simp only [codeOk, Bool.and_eq_true] at h
    rcases List.mem_append.1 hi with hi | hi
    · exact iha h.1.2 i hi
    · exact ihb h.2 i hi
  | block id c ih => intro h i hi; exact ih h i hi
  | loop c ih => intro h i hi; exact ih h i hi
  | scope c ih => intro h i hi; exact ih h i hi
  | _ => intro _ i hi; simp [writes] at hi

/-- The contract of a function, out of 'vc' of its body. -/
theorem calls_of_vc {P : Program} {f : FuncId} {fn : Func} {c : Code} {args : List Value} {w : World} {R : Ending → World → Prop} {ann : Ann} {E : List (Nat × TypeId)} (hm : P.follows .mixedOrders = true)
    (hf : P.funcs[f]? = some fn) (hb : fn.body = some c)
    (hok : (codeOk fn.ntmps c && loopsOk fn.ntmps c && noRange c && resOk fn.ntmps fn.results.toList && Nat.ble args.length fn.ntmps) = true)
    (h : vc P E fn.ntmps ann c ⟨fun ρ w => resL P w fn.results.toList ρ fun vs => R (.returned (oneOf vs)) w, fun ρ w => resL P w fn.results.toList ρ fun vs => R (.returned (oneOf vs)) w, fun _ _ _ => False⟩ (envL args) w) :
    Calls P f args.toArray w R := by
  simp only [Bool.and_eq_true] at hok
  obtain ⟨⟨⟨⟨h1, h2⟩, hn⟩, h3⟩, h4⟩ := hok
  refine calls_of_vcR (ann := ann) (E := E) hm hf hb (by simp [h1, h2, h3, h4]) ?_
  have hN : ∀ ρ : Env, Agree (writes c) (envL args) ρ → ρ fn.ntmps = undef := fun ρ ha => by
    rw [ha fn.ntmps fun hi => Nat.lt_irrefl _ (writes_lt c h1 _ hi)]
    exact envL_none _ _ (Nat.le_of_ble_eq_true h4)
  refine vc_agree c (writes c) (envL args) ⟨fun ρ w => resL P w fn.results.toList ρ fun vs => R (.returned (oneOf vs)) w, fun ρ w => resL P w fn.results.toList ρ fun vs => R (.returned (oneOf vs)) w, fun _ _ _ => False⟩ _ _ w hn (fun _ h => h) (Agree.refl _ _) (fun ρ w ha h => ?_) (fun ρ w ha h => ?_) (fun _ _ _ _ h => h) h
  · show endV (ρ fn.ntmps) w _
    rw [hN ρ ha]; exact h
  · show endV (ρ fn.ntmps) w _
    rw [hN ρ ha]; exact h

end Go.Proofs.Ytonjaaljnjjjcaa

/- The program, and that its regions are drawn under mixed orders. -/
set_option linter.unusedVariables false
set_option linter.unusedSimpArgs false
namespace Go.Proofs.Ytonjaaljnjjjcaa
open Go
noncomputable abbrev Pr : Program := Try.prog
theorem follows : Pr.follows .mixedOrders = true := by kernel_rfl
theorem by_eq {A B : Prop} (h : B) (e : A = B) : A := e ▸ h
end Go.Proofs.Ytonjaaljnjjjcaa

/- What 'vc' of these functions comes to, and their calls by it. Printed by dec.py. -/
set_option linter.unusedVariables false
set_option linter.unusedSimpArgs false
namespace Go.Proofs.Ytonjaaljnjjjcaa
open Go

/-- creel/creellaw04.shown -/
def ir35 (w0 : World) (R : Value → World → Prop) : Prop :=
  Calls Pr 25 #[(.int .i64 9)] w0 fun e1 w1 =>
    ∃ (p1 : Option Addr),
    e1 = .returned (.pointer p1) ∧
    brc (Option.isNone p1)
      (R (.bool false) w1)
      (Calls Pr 32 #[(.pointer p1), (.string (⟨#[97]⟩ : ByteArray))] w1 fun e2 w2 =>
          ∃ (n1 : Int),
          e2 = .returned (.int .i64 n1) ∧
          brc (n1 != (0 : Int))
            (R (.bool false) w2)
            (∃ (s1 : SV) (w3 : World),
              Sem.run Pr (Instr.makeSlice 26 (.int .i64 5) (.int .i64 5)) w2 = .ok (.slice s1.a s1.len s1.cap) w3 ∧
              Calls Pr 33 #[(.pointer p1), (.string (⟨#[97]⟩ : ByteArray)), (.slice s1.a s1.len s1.cap)] w3 fun e3 w4 =>
                ∃ (n2 : Int),
                e3 = .returned (.int .i64 n2) ∧
                brc (n2 != (0 : Int))
                  (R (.bool false) w4)
                  (Calls Pr 45 #[(.pointer p1), (.agg #[(.int .i64 0), (.slice none 0 0)])] w4 fun e4 w5 =>
                      ∃ (n3 : Int),
                      e4 = .returned (.int .i64 n3) ∧
                      brc (n3 != (0 : Int))
                        (R (.bool false) w5)
                        (Calls Pr 50 #[(.pointer p1)] w5 fun e5 w6 =>
                            ∃ (s2 : SV) (n4 : Int),
                            e5 = .returned (.tuple #[(.slice s2.a s2.len s2.cap), (.int .i64 n4)]) ∧
                            brc (((s2.len : Nat) : Int) != (0 : Int))
                              (R (.bool false) w6)
                              (brc (n4 != (0 : Int))
                                  (R (.bool false) w6)
                                  (Calls Pr 32 #[(.pointer p1), (.string (⟨#[97]⟩ : ByteArray))] w6 fun e6 w7 =>
                                      ∃ (n5 : Int),
                                      e6 = .returned (.int .i64 n5) ∧
                                      brc (n5 != (0 : Int))
                                        (R (.bool false) w7)
                                        (Calls Pr 55 #[(.pointer p1)] w7 fun e7 w8 =>
                                            ∃ (n6 : Int),
                                            e7 = .returned (.int .i64 n6) ∧
                                            brc (n6 != (0 : Int))
                                              (R (.bool false) w8)
                                              (∃ (s3 : SV) (w9 : World),
                                                Sem.run Pr (Instr.makeSlice 26 (.int .i64 5) (.int .i64 5)) w8 = .ok (.slice s3.a s3.len s3.cap) w9 ∧
                                                Calls Pr 33 #[(.pointer p1), (.string (⟨#[97]⟩ : ByteArray)), (.slice s3.a s3.len s3.cap)] w9 fun e8 w10 =>
                                                  ∃ (n7 : Int),
                                                  e8 = .returned (.int .i64 n7) ∧
                                                  brc (n7 != (0 : Int))
                                                    (R (.bool false) w10)
                                                    (∃ (s4 : SV) (w11 : World),
                                                      Sem.run Pr (Instr.buildSlice 61 1 #[(0, (.int .i64 2))]) w10 = .ok (.slice s4.a s4.len s4.cap) w11 ∧
                                                      Calls Pr 45 #[(.pointer p1), (.agg #[(.int .i64 0), (.slice s4.a s4.len s4.cap)])] w11 fun e9 w12 =>
                                                        ∃ (n8 : Int),
                                                        e9 = .returned (.int .i64 n8) ∧
                                                        brc (n8 != (0 : Int))
                                                          (R (.bool false) w12)
                                                          (Calls Pr 28 #[(.pointer p1), (.string (⟨#[97]⟩ : ByteArray))] w12 fun e10 w13 =>
                                                              ∃ (s5 : SV) (n9 : Int),
                                                              e10 = .returned (.tuple #[(.slice s5.a s5.len s5.cap), (.int .i64 n9)]) ∧
                                                              brc (((s5.len : Nat) : Int) == (2 : Int))
                                                                (brc (n9 == (0 : Int))
                                                                    (∃ (s6 : SV) (w14 : World),
                                                                      Sem.run Pr (Instr.makeSlice 26 (.int .i64 8) (.int .i64 8)) w13 = .ok (.slice s6.a s6.len s6.cap) w14 ∧
                                                                      Calls Pr 33 #[(.pointer p1), (.string (⟨#[97]⟩ : ByteArray)), (.slice s6.a s6.len s6.cap)] w14 fun e11 w15 =>
                                                                        ∃ (n10 : Int),
                                                                        e11 = .returned (.int .i64 n10) ∧
                                                                        R (.bool (n10 == (41 : Int))) w15)
                                                                    (R (.bool false) w13))
                                                                (R (.bool false) w13)))))))))))

theorem call35 {w0 : World} {R : Ending → World → Prop} (h : ir35 w0 fun v w => R (.returned v) w) : Calls Pr 35 #[] w0 R := by
  refine calls_of_vc (ann := []) (E := []) (args := []) follows Try.func35 rfl (by kernel_rfl) ?_
  apply by_eq h
  kernel_rfl

/-- creel/creellaw04.few -/
def ir37 (x0 : SV) (w0 : World) (R : Value → World → Prop) : Prop :=
  LoopT (σ := Int × SV × Unit) (fun σ1 w1 K1 =>
    ∀ _ : Env,
    brc (decide (σ1.1 < ((x0.len : Nat) : Int)))
      (((0 : Int) ≤ σ1.1 ∧ σ1.1 < ((x0.len : Nat) : Int)) ∧
        optK x0.a fun a1 =>
          ∃ (n1 : Int) (str1 : ByteArray) (str2 : ByteArray) (s1 : SV) (n2 : Int) (n3 : Int) (s2 : SV),
          At Pr w1 (loadVar 68 (Addr.add a1 (Int.toNat σ1.1 * 7))) (.agg #[(.int .u8 n1), (.string str1), (.string str2), (.slice s1.a s1.len s1.cap), (.int .i64 n2), (.int .i64 n3), (.slice s2.a s2.len s2.cap)]) ∧
          ∃ (a2 : Addr) (w2 : World),
          Sem.run Pr (Instr.alloc 68 true (.tuple #[])) w1 = .ok (.pointer (some a2)) w2 ∧
          ∃ (w3 : World),
          Sem.run Pr (Instr.storeAt 68 (.pointer (some a2)) (.agg #[(.int .u8 n1), (.string str1), (.string str2), (.slice s1.a s1.len s1.cap), (.int .i64 n2), (.int .i64 n3), (.slice s2.a s2.len s2.cap)])) w2 = .ok () w3 ∧
          brc (decide (σ1.1 < (100 : Int)))
            (∃ (s3 : SV),
              At Pr w3 (loadVar 26 (Addr.add a2 3)) (.slice s3.a s3.len s3.cap) ∧
              brc (decide (((s3.len : Nat) : Int) ≤ (50 : Int)))
                (∃ (str3 : ByteArray),
                  At Pr w3 (loadVar 9 (Addr.add a2 1)) (.string str3) ∧
                  brc (decide (((ByteArray.size str3 : Nat) : Int) ≤ (40 : Int)))
                    (∃ (str4 : ByteArray),
                      At Pr w3 (loadVar 9 (Addr.add a2 2)) (.string str4) ∧
                      brc (decide (((ByteArray.size str4 : Nat) : Int) ≤ (40 : Int)))
                        (∃ (s4 : SV),
                          At Pr w3 (loadVar 61 (Addr.add (Addr.add a2 5) 1)) (.slice s4.a s4.len s4.cap) ∧
                          brc (decide (((s4.len : Nat) : Int) ≤ (50 : Int)))
                            (∃ (n4 : Int) (str5 : ByteArray) (str6 : ByteArray) (s5 : SV) (n5 : Int) (n6 : Int) (s6 : SV),
                              At Pr w3 (loadVar 68 a2) (.agg #[(.int .u8 n4), (.string str5), (.string str6), (.slice s5.a s5.len s5.cap), (.int .i64 n5), (.int .i64 n6), (.slice s6.a s6.len s6.cap)]) ∧
                              ∃ (s7 : SV) (w4 : World),
                              Sem.run Pr (Instr.buildSlice 60 1 #[(0, (.agg #[(.int .u8 n4), (.string str5), (.string str6), (.slice s5.a s5.len s5.cap), (.int .i64 n5), (.int .i64 n6), (.slice s6.a s6.len s6.cap)]))]) w3 = .ok (.slice s7.a s7.len s7.cap) w4 ∧
                              ∃ (s8 : SV) (w5 : World),
                              Sem.run Pr (Builtin.append_ #[60, 60] 60 #[(.slice σ1.2.1.a σ1.2.1.len σ1.2.1.cap), (.slice s7.a s7.len s7.cap)]) w4 = .ok (.slice s8.a s8.len s8.cap) w5 ∧
                              K1 (IntKind.wrap .i64 (σ1.1 + 1), s8, ()) w5)
                            (K1 (IntKind.wrap .i64 (σ1.1 + 1), σ1.2.1, ()) w3))
                        (K1 (IntKind.wrap .i64 (σ1.1 + 1), σ1.2.1, ()) w3))
                    (K1 (IntKind.wrap .i64 (σ1.1 + 1), σ1.2.1, ()) w3))
                (K1 (IntKind.wrap .i64 (σ1.1 + 1), σ1.2.1, ()) w3))
            (K1 (IntKind.wrap .i64 (σ1.1 + 1), σ1.2.1, ()) w3))
      (R (.slice σ1.2.1.a σ1.2.1.len σ1.2.1.cap) w1)) (0, SV.mk none 0 0, ()) w0

theorem call37 {x0 : SV} {w0 : World} {R : Ending → World → Prop} (h : ir37 x0 w0 fun v w => R (.returned v) w) : Calls Pr 37 #[.slice x0.a x0.len x0.cap] w0 R := by
  refine calls_of_vc (ann := [(3, [(8, .int .i64), (3, .slice)])]) (E := []) (args := [.slice x0.a x0.len x0.cap]) follows Try.func37 rfl (by kernel_rfl) ?_
  apply by_eq h
  kernel_rfl

/-- creel/creellaw04.does -/
def ir38 (x0 : Option Addr) (x1_Kind : Int) (x1_Name : ByteArray) (x1_To : ByteArray) (x1_B : SV) (x1_N : Int) (x1_W_Names : Int) (x1_W_Bytes : SV) (w0 : World) (R : Value → World → Prop) : Prop :=
  ∃ (a1 : Addr) (w1 : World),
  Sem.run Pr (Instr.box 68 (.agg #[(.int .u8 x1_Kind), (.string x1_Name), (.string x1_To), (.slice x1_B.a x1_B.len x1_B.cap), (.int .i64 x1_N), (.int .i64 x1_W_Names), (.slice x1_W_Bytes.a x1_W_Bytes.len x1_W_Bytes.cap)])) w0 = .ok (.pointer (some a1)) w1 ∧
  ∃ (n1 : Int),
  At Pr w1 (loadVar 5 (Addr.add a1 0)) (.int .u8 n1) ∧
  (13 : Int) ≠ 0 ∧
  brc ((Int.tmod n1 13) == (0 : Int))
    (∃ (str1 : ByteArray),
      At Pr w1 (loadVar 9 (Addr.add a1 1)) (.string str1) ∧
      Calls Pr 32 #[(.pointer x0), (.string str1)] w1 fun e1 w2 =>
        ∃ (n2 : Int),
        e1 = .returned (.int .i64 n2) ∧
        R (.int .i64 n2) w2)
    (brc ((Int.tmod n1 13) == (4 : Int))
        (∃ (str2 : ByteArray),
          At Pr w1 (loadVar 9 (Addr.add a1 1)) (.string str2) ∧
          Calls Pr 28 #[(.pointer x0), (.string str2)] w1 fun e2 w3 =>
            ∃ (s1 : SV) (n3 : Int),
            e2 = .returned (.tuple #[(.slice s1.a s1.len s1.cap), (.int .i64 n3)]) ∧
            R (.int .i64 n3) w3)
        (brc ((Int.tmod n1 13) == (5 : Int))
            (∃ (str3 : ByteArray),
              At Pr w1 (loadVar 9 (Addr.add a1 1)) (.string str3) ∧
              Calls Pr 57 #[(.pointer x0), (.string str3)] w1 fun e3 w4 =>
                ∃ (n4 : Int),
                e3 = .returned (.int .i64 n4) ∧
                R (.int .i64 n4) w4)
            (brc ((Int.tmod n1 13) == (6 : Int))
                (∃ (str4 : ByteArray),
                  At Pr w1 (loadVar 9 (Addr.add a1 1)) (.string str4) ∧
                  ∃ (str5 : ByteArray),
                  At Pr w1 (loadVar 9 (Addr.add a1 2)) (.string str5) ∧
                  Calls Pr 85 #[(.pointer x0), (.string str4), (.string str5)] w1 fun e4 w5 =>
                    ∃ (n5 : Int),
                    e4 = .returned (.int .i64 n5) ∧
                    R (.int .i64 n5) w5)
                (brc ((Int.tmod n1 13) == (7 : Int))
                    (∃ (str6 : ByteArray),
                      At Pr w1 (loadVar 9 (Addr.add a1 1)) (.string str6) ∧
                      Calls Pr 86 #[(.pointer x0), (.string str6)] w1 fun e5 w6 =>
                        ∃ (n6 : Int),
                        e5 = .returned (.int .i64 n6) ∧
                        R (.int .i64 n6) w6)
                    (brc ((Int.tmod n1 13) == (8 : Int))
                        (Calls Pr 55 #[(.pointer x0)] w1 fun e6 w7 =>
                            ∃ (n7 : Int),
                            e6 = .returned (.int .i64 n7) ∧
                            R (.int .i64 n7) w7)
                        (brc ((Int.tmod n1 13) == (9 : Int))
                            (Calls Pr 50 #[(.pointer x0)] w1 fun e7 w8 =>
                                ∃ (s2 : SV) (n8 : Int),
                                e7 = .returned (.tuple #[(.slice s2.a s2.len s2.cap), (.int .i64 n8)]) ∧
                                R (.int .i64 n8) w8)
                            (brc ((Int.tmod n1 13) == (10 : Int))
                                (∃ (n9 : Int),
                                  At Pr w1 (loadVar 3 (Addr.add a1 4)) (.int .i64 n9) ∧
                                  Calls Pr 49 #[(.pointer x0), (.int .i64 n9)] w1 fun e8 w9 =>
                                    ∃ (n10 : Int),
                                    e8 = .returned (.int .i64 n10) ∧
                                    R (.int .i64 n10) w9)
                                (brc ((Int.tmod n1 13) == (11 : Int))
                                    (∃ (n11 : Int) (s3 : SV),
                                      At Pr w1 (loadVar 63 (Addr.add a1 5)) (.agg #[(.int .i64 n11), (.slice s3.a s3.len s3.cap)]) ∧
                                      Calls Pr 45 #[(.pointer x0), (.agg #[(.int .i64 n11), (.slice s3.a s3.len s3.cap)])] w1 fun e9 w10 =>
                                        ∃ (n12 : Int),
                                        e9 = .returned (.int .i64 n12) ∧
                                        R (.int .i64 n12) w10)
                                    (brc ((Int.tmod n1 13) == (12 : Int))
                                        (∃ (n13 : Int),
                                          At Pr w1 (loadVar 3 (Addr.add a1 4)) (.int .i64 n13) ∧
                                          Calls Pr 95 #[(.pointer x0), (.int .i64 n13)] w1 fun e10 w11 =>
                                            ∃ (n14 : Int),
                                            e10 = .returned (.int .i64 n14) ∧
                                            R (.int .i64 n14) w11)
                                        (∃ (str7 : ByteArray),
                                          At Pr w1 (loadVar 9 (Addr.add a1 1)) (.string str7) ∧
                                          ∃ (s4 : SV),
                                          At Pr w1 (loadVar 26 (Addr.add a1 3)) (.slice s4.a s4.len s4.cap) ∧
                                          Calls Pr 33 #[(.pointer x0), (.string str7), (.slice s4.a s4.len s4.cap)] w1 fun e11 w12 =>
                                            ∃ (n15 : Int),
                                            e11 = .returned (.int .i64 n15) ∧
                                            R (.int .i64 n15) w12))))))))))

theorem call38 {x0 : Option Addr} {x1_Kind : Int} {x1_Name : ByteArray} {x1_To : ByteArray} {x1_B : SV} {x1_N : Int} {x1_W_Names : Int} {x1_W_Bytes : SV} {w0 : World} {R : Ending → World → Prop} (h : ir38 x0 x1_Kind x1_Name x1_To x1_B x1_N x1_W_Names x1_W_Bytes w0 fun v w => R (.returned v) w) : Calls Pr 38 #[.pointer x0, .agg #[(.int .u8 x1_Kind), (.string x1_Name), (.string x1_To), (.slice x1_B.a x1_B.len x1_B.cap), (.int .i64 x1_N), (.int .i64 x1_W_Names), (.slice x1_W_Bytes.a x1_W_Bytes.len x1_W_Bytes.cap)]] w0 R := by
  refine calls_of_vc (ann := []) (E := []) (args := [.pointer x0, .agg #[(.int .u8 x1_Kind), (.string x1_Name), (.string x1_To), (.slice x1_B.a x1_B.len x1_B.cap), (.int .i64 x1_N), (.int .i64 x1_W_Names), (.slice x1_W_Bytes.a x1_W_Bytes.len x1_W_Bytes.cap)]]) follows Try.func38 rfl (by kernel_rfl) ?_
  apply by_eq h
  kernel_rfl

/-- creel/creellaw04.same -/
def ir43 (x0 : Option Addr) (x1 : Option Addr) (w0 : World) (R : Value → World → Prop) : Prop :=
  Calls Pr 50 #[(.pointer x0)] w0 fun e1 w1 =>
    ∃ (s1 : SV) (n1 : Int),
    e1 = .returned (.tuple #[(.slice s1.a s1.len s1.cap), (.int .i64 n1)]) ∧
    Calls Pr 101 #[(.pointer x1)] w1 fun e2 w2 =>
      ∃ (s2 : SV) (n2 : Int),
      e2 = .returned (.tuple #[(.slice s2.a s2.len s2.cap), (.int .i64 n2)]) ∧
      Calls Pr 107 #[(.slice s1.a s1.len s1.cap), (.slice s2.a s2.len s2.cap)] w2 fun e3 w3 =>
        ∃ (b1 : Bool),
        e3 = .returned (.bool b1) ∧
        brc (!b1)
          (R (.bool false) w3)
          (brc (n1 != n2)
              (R (.bool false) w3)
              (Calls Pr 40 #[(.pointer x0)] w3 fun e4 w4 =>
                  ∃ (n3 : Int),
                  e4 = .returned (.int .i64 n3) ∧
                  Calls Pr 41 #[(.pointer x1)] w4 fun e5 w5 =>
                    ∃ (n4 : Int),
                    e5 = .returned (.int .i64 n4) ∧
                    brc (n3 != n4)
                      (R (.bool false) w5)
                      (LoopT (σ := Int × Unit) (fun σ1 w6 K1 =>
                          ∀ _ : Env,
                          brc (decide (σ1.1 < ((s2.len : Nat) : Int)))
                            (((0 : Int) ≤ σ1.1 ∧ σ1.1 < ((s2.len : Nat) : Int)) ∧
                              optK s2.a fun a1 =>
                                ∃ (str1 : ByteArray),
                                At Pr w6 (loadVar 9 (Addr.add a1 (Int.toNat σ1.1 * 1))) (.string str1) ∧
                                Calls Pr 28 #[(.pointer x0), (.string str1)] w6 fun e6 w7 =>
                                  ∃ (s3 : SV) (n5 : Int),
                                  e6 = .returned (.tuple #[(.slice s3.a s3.len s3.cap), (.int .i64 n5)]) ∧
                                  Calls Pr 64 #[(.pointer x1), (.string str1)] w7 fun e7 w8 =>
                                    ∃ (s4 : SV) (n6 : Int),
                                    e7 = .returned (.tuple #[(.slice s4.a s4.len s4.cap), (.int .i64 n6)]) ∧
                                    ∃ (str2 : ByteArray),
                                    At Pr w8 (convert 26 9 (.slice s3.a s3.len s3.cap)) (.string str2) ∧
                                    ∃ (str3 : ByteArray),
                                    At Pr w8 (convert 26 9 (.slice s4.a s4.len s4.cap)) (.string str3) ∧
                                    brc (!(ByteArray.toList str2 == ByteArray.toList str3))
                                      (R (.bool false) w8)
                                      (brc (n5 != n6)
                                          (R (.bool false) w8)
                                          (K1 (IntKind.wrap .i64 (σ1.1 + 1), ()) w8)))
                            (R (.bool true) w6)) (0, ()) w5)))

theorem call43 {x0 : Option Addr} {x1 : Option Addr} {w0 : World} {R : Ending → World → Prop} (h : ir43 x0 x1 w0 fun v w => R (.returned v) w) : Calls Pr 43 #[.pointer x0, .pointer x1] w0 R := by
  refine calls_of_vc (ann := [(6, [(43, .int .i64)])]) (E := []) (args := [.pointer x0, .pointer x1]) follows Try.func43 rfl (by kernel_rfl) ?_
  apply by_eq h
  kernel_rfl

/-- creel/creellaw04.texts -/
def ir107 (x0 : SV) (x1 : SV) (w0 : World) (R : Value → World → Prop) : Prop :=
  brc (((x0.len : Nat) : Int) != ((x1.len : Nat) : Int))
    (R (.bool false) w0)
    (LoopT (σ := Int × Unit) (fun σ1 w1 K1 =>
        ∀ _ : Env,
        brc (decide (σ1.1 < ((x0.len : Nat) : Int)))
          (∃ (S1 : World → Prop),
            S1 (World.drew w1) ∧
            ((0 : Int) ≤ σ1.1 ∧ σ1.1 < ((x0.len : Nat) : Int)) ∧
            optK x0.a fun a1 =>
              ∃ (str1 : ByteArray),
              AtS Pr S1 (loadVar 9 (Addr.add a1 (Int.toNat σ1.1 * 1))) (.string str1) ∧
              ((0 : Int) ≤ σ1.1 ∧ σ1.1 < ((x1.len : Nat) : Int)) ∧
              optK x1.a fun a2 =>
                ∃ (str2 : ByteArray),
                AtS Pr S1 (loadVar 9 (Addr.add a2 (Int.toNat σ1.1 * 1))) (.string str2) ∧
                brc (!(ByteArray.toList str1 == ByteArray.toList str2))
                  (R (.bool false) (World.drew w1))
                  (K1 (IntKind.wrap .i64 (σ1.1 + 1), ()) (World.drew w1)))
          (R (.bool true) w1)) (0, ()) w0)

theorem call107 {x0 : SV} {x1 : SV} {w0 : World} {R : Ending → World → Prop} (h : ir107 x0 x1 w0 fun v w => R (.returned v) w) : Calls Pr 107 #[.slice x0.a x0.len x0.cap, .slice x1.a x1.len x1.cap] w0 R := by
  refine calls_of_vc (ann := [(4, [(13, .int .i64)])]) (E := []) (args := [.slice x0.a x0.len x0.cap, .slice x1.a x1.len x1.cap]) follows Try.func107 rfl (by kernel_rfl) ?_
  apply by_eq h
  kernel_rfl

/-- creel/creellaw04.DiskPlays -/
def ir7 (x0 : Int) (x1 : SV) (x2_Names : Int) (x2_Bytes : SV) (w0 : World) (R : Value → World → Prop) : Prop :=
  ∃ (a1 : Addr) (w1 : World),
  Sem.run Pr (Instr.box 63 (.agg #[(.int .i64 x2_Names), (.slice x2_Bytes.a x2_Bytes.len x2_Bytes.cap)])) w0 = .ok (.pointer (some a1)) w1 ∧
  Calls Pr 35 #[] w1 fun e1 w2 =>
    ∃ (b1 : Bool),
    e1 = .returned (.bool b1) ∧
    Calls Pr 25 #[(.int .i64 x0)] w2 fun e2 w3 =>
      ∃ (p1 : Option Addr),
      e2 = .returned (.pointer p1) ∧
      Calls Pr 36 #[(.int .i64 x0)] w3 fun e3 w4 =>
        ∃ (p2 : Option Addr),
        e3 = .returned (.pointer p2) ∧
        brc (Option.isNone p1)
          (R (.bool false) w4)
          (Calls Pr 37 #[(.slice x1.a x1.len x1.cap)] w4 fun e4 w5 =>
              ∃ (s1 : SV),
              e4 = .returned (.slice s1.a s1.len s1.cap) ∧
              LoopT (σ := Int × Unit) (fun σ1 w6 K1 =>
                ∀ _ : Env,
                brc (decide (σ1.1 < ((s1.len : Nat) : Int)))
                  (((0 : Int) ≤ σ1.1 ∧ σ1.1 < ((s1.len : Nat) : Int)) ∧
                    optK s1.a fun a2 =>
                      ∃ (n1 : Int) (str1 : ByteArray) (str2 : ByteArray) (s2 : SV) (n2 : Int) (n3 : Int) (s3 : SV),
                      At Pr w6 (loadVar 68 (Addr.add a2 (Int.toNat σ1.1 * 7))) (.agg #[(.int .u8 n1), (.string str1), (.string str2), (.slice s2.a s2.len s2.cap), (.int .i64 n2), (.int .i64 n3), (.slice s3.a s3.len s3.cap)]) ∧
                      ∃ (a3 : Addr) (w7 : World),
                      Sem.run Pr (Instr.alloc 68 true (.tuple #[])) w6 = .ok (.pointer (some a3)) w7 ∧
                      ∃ (w8 : World),
                      Sem.run Pr (Instr.storeAt 68 (.pointer (some a3)) (.agg #[(.int .u8 n1), (.string str1), (.string str2), (.slice s2.a s2.len s2.cap), (.int .i64 n2), (.int .i64 n3), (.slice s3.a s3.len s3.cap)])) w7 = .ok () w8 ∧
                      ∃ (S1 : World → Prop),
                      S1 (World.drew w8) ∧
                      ∃ (n4 : Int) (str3 : ByteArray) (str4 : ByteArray) (s4 : SV) (n5 : Int) (n6 : Int) (s5 : SV),
                      AtS Pr S1 (loadVar 68 a3) (.agg #[(.int .u8 n4), (.string str3), (.string str4), (.slice s4.a s4.len s4.cap), (.int .i64 n5), (.int .i64 n6), (.slice s5.a s5.len s5.cap)]) ∧
                      ∃ (n7 : Int) (str5 : ByteArray) (str6 : ByteArray) (s6 : SV) (n8 : Int) (n9 : Int) (s7 : SV),
                      AtS Pr S1 (loadVar 68 a3) (.agg #[(.int .u8 n7), (.string str5), (.string str6), (.slice s6.a s6.len s6.cap), (.int .i64 n8), (.int .i64 n9), (.slice s7.a s7.len s7.cap)]) ∧
                      Calls Pr 38 #[(.pointer p1), (.agg #[(.int .u8 n4), (.string str3), (.string str4), (.slice s4.a s4.len s4.cap), (.int .i64 n5), (.int .i64 n6), (.slice s5.a s5.len s5.cap)])] (World.drew w8) fun e5 w9 =>
                        ∃ (n10 : Int),
                        e5 = .returned (.int .i64 n10) ∧
                        ∃ (S2 : World → Prop),
                        (∀ w, S2 w → S1 w) ∧
                        S2 w9 ∧
                        Calls Pr 39 #[(.pointer p2), (.agg #[(.int .u8 n7), (.string str5), (.string str6), (.slice s6.a s6.len s6.cap), (.int .i64 n8), (.int .i64 n9), (.slice s7.a s7.len s7.cap)])] w9 fun e6 w10 =>
                          ∃ (n11 : Int),
                          e6 = .returned (.int .i64 n11) ∧
                          ∃ (S3 : World → Prop),
                          (∀ w, S3 w → S2 w) ∧
                          S3 w10 ∧
                          brc (n10 != n11)
                            (R (.bool false) w10)
                            (Calls Pr 40 #[(.pointer p1)] w10 fun e7 w11 =>
                                ∃ (n12 : Int),
                                e7 = .returned (.int .i64 n12) ∧
                                ∃ (S4 : World → Prop),
                                (∀ w, S4 w → S3 w) ∧
                                S4 w11 ∧
                                Calls Pr 41 #[(.pointer p2)] w11 fun e8 w12 =>
                                  ∃ (n13 : Int),
                                  e8 = .returned (.int .i64 n13) ∧
                                  ∃ (S5 : World → Prop),
                                  (∀ w, S5 w → S4 w) ∧
                                  S5 w12 ∧
                                  brc (n12 != n13)
                                    (R (.bool false) w12)
                                    (K1 (IntKind.wrap .i64 (σ1.1 + 1), ()) w12)))
                  (Calls Pr 42 #[(.pointer p1)] w6 fun e9 w13 =>
                      ∃ (p3 : Option Addr),
                      e9 = .returned (.pointer p3) ∧
                      brc (Option.isNone p3)
                        (R (.bool false) w13)
                        (Calls Pr 44 #[(.pointer p2)] w13 fun e10 w14 =>
                            ∃ (p4 : Option Addr),
                            e10 = .returned (.pointer p4) ∧
                            Calls Pr 43 #[(.pointer p1), (.pointer p4)] w14 fun e11 w15 =>
                              ∃ (b2 : Bool),
                              e11 = .returned (.bool b2) ∧
                              brc (!b2)
                                (R (.bool false) w15)
                                (∃ (n14 : Int) (s8 : SV),
                                  At Pr w15 (loadVar 63 a1) (.agg #[(.int .i64 n14), (.slice s8.a s8.len s8.cap)]) ∧
                                  Calls Pr 45 #[(.pointer p3), (.agg #[(.int .i64 n14), (.slice s8.a s8.len s8.cap)])] w15 fun e12 w16 =>
                                    ∃ (n15 : Int),
                                    e12 = .returned (.int .i64 n15) ∧
                                    ∃ (n16 : Int) (s9 : SV),
                                    At Pr w16 (loadVar 63 a1) (.agg #[(.int .i64 n16), (.slice s9.a s9.len s9.cap)]) ∧
                                    Calls Pr 46 #[(.pointer p2), (.agg #[(.int .i64 n16), (.slice s9.a s9.len s9.cap)])] w16 fun e13 w17 =>
                                      ∃ (n17 : Int),
                                      e13 = .returned (.int .i64 n17) ∧
                                      brc (b1)
                                        (Calls Pr 43 #[(.pointer p3), (.pointer p2)] w17 fun e14 w18 =>
                                            ∃ (b3 : Bool),
                                            e14 = .returned (.bool b3) ∧
                                            R (.bool b3) w18)
                                        (R (.bool false) w17))))) (0, ()) w5)

theorem call7 {x0 : Int} {x1 : SV} {x2_Names : Int} {x2_Bytes : SV} {w0 : World} {R : Ending → World → Prop} (h : ir7 x0 x1 x2_Names x2_Bytes w0 fun v w => R (.returned v) w) : Calls Pr 7 #[.int .i64 x0, .slice x1.a x1.len x1.cap, .agg #[(.int .i64 x2_Names), (.slice x2_Bytes.a x2_Bytes.len x2_Bytes.cap)]] w0 R := by
  refine calls_of_vc (ann := [(6, [(23, .int .i64)])]) (E := []) (args := [.int .i64 x0, .slice x1.a x1.len x1.cap, .agg #[(.int .i64 x2_Names), (.slice x2_Bytes.a x2_Bytes.len x2_Bytes.cap)]]) follows Try.func7 rfl (by kernel_rfl) ?_
  apply by_eq h
  kernel_rfl

end Go.Proofs.Ytonjaaljnjjjcaa

set_option linter.unusedVariables false
set_option linter.unusedSimpArgs false
namespace Go.Proofs.Ytonjaaljnjjjcaa
open Go

/-- creel/creellaw13.rise -/
def ir26 (x0 : SV) (w0 : World) (R : Value → World → Prop) : Prop :=
  Calls Pr 61 #[(.slice x0.a x0.len x0.cap)] w0 fun e1 w1 =>
    ∃ (s1 : SV),
    e1 = .returned (.slice s1.a s1.len s1.cap) ∧
    LoopT (σ := Int × SV × Unit) (fun σ1 w2 K1 =>
      ∀ _ : Env,
      brc (decide (σ1.1 < ((s1.len : Nat) : Int)))
        (((0 : Int) ≤ σ1.1 ∧ σ1.1 < ((s1.len : Nat) : Int)) ∧
          optK s1.a fun a1 =>
            ∃ (s2 : SV),
            At Pr w2 (loadVar 26 (Addr.add a1 (Int.toNat σ1.1 * 1))) (.slice s2.a s2.len s2.cap) ∧
            brc (decide (((s2.len : Nat) : Int) > (64 : Int)))
              (K1 (IntKind.wrap .i64 (σ1.1 + 1), σ1.2.1, ()) w2)
              (LoopT (σ := Int × Unit) (fun σ2 w3 K2 =>
                  ∀ _ : Env,
                  ∃ (S1 : World → Prop),
                  S1 (World.drew w3) ∧
                  brc (decide (σ2.1 < ((σ1.2.1.len : Nat) : Int)))
                    (((0 : Int) ≤ σ2.1 ∧ σ2.1 < ((σ1.2.1.len : Nat) : Int)) ∧
                      optK σ1.2.1.a fun a2 =>
                        ∃ (s3 : SV),
                        AtS Pr S1 (loadVar 26 (Addr.add a2 (Int.toNat σ2.1 * 1))) (.slice s3.a s3.len s3.cap) ∧
                        ∃ (str1 : ByteArray),
                        AtS Pr S1 (convert 26 9 (.slice s3.a s3.len s3.cap)) (.string str1) ∧
                        ∃ (str2 : ByteArray),
                        AtS Pr S1 (convert 26 9 (.slice s2.a s2.len s2.cap)) (.string str2) ∧
                        brc ((Op.bytesLess (ByteArray.toList str1) (ByteArray.toList str2)))
                          (K2 (IntKind.wrap .i64 (σ2.1 + 1), ()) (World.drew w3))
                          (∃ (S2 : World → Prop),
                            S2 (World.drew (World.drew w3)) ∧
                            brc (decide (σ2.1 < ((σ1.2.1.len : Nat) : Int)))
                              (((0 : Int) ≤ σ2.1 ∧ σ2.1 < ((σ1.2.1.len : Nat) : Int)) ∧
                                optK σ1.2.1.a fun a3 =>
                                  ∃ (s4 : SV),
                                  AtS Pr S2 (loadVar 26 (Addr.add a3 (Int.toNat σ2.1 * 1))) (.slice s4.a s4.len s4.cap) ∧
                                  ∃ (str3 : ByteArray),
                                  AtS Pr S2 (convert 26 9 (.slice s4.a s4.len s4.cap)) (.string str3) ∧
                                  ∃ (str4 : ByteArray),
                                  AtS Pr S2 (convert 26 9 (.slice s2.a s2.len s2.cap)) (.string str4) ∧
                                  brc ((ByteArray.toList str3 == ByteArray.toList str4))
                                    (K1 (IntKind.wrap .i64 (σ1.1 + 1), σ1.2.1, ()) (World.drew (World.drew w3)))
                                    (∃ (S3 : World → Prop),
                                      S3 (World.drew (World.drew (World.drew w3))) ∧
                                      ((0 : Int) ≤ σ2.1 ∧ σ2.1 ≤ ((σ1.2.1.cap : Nat) : Int)) ∧
                                      ((0 : Int) ≤ σ2.1 ∧ σ2.1 ≤ ((σ1.2.1.len : Nat) : Int)) ∧
                                      (∃ (s5 : SV) (w4 : World),
                                      Sem.run Pr (Instr.buildSlice 22 0 #[]) (World.drew (World.drew (World.drew w3))) = .ok (.slice s5.a s5.len s5.cap) w4 ∧
                                      ∃ (S4 : World → Prop),
                                      S4 w4 ∧
                                      (∃ (s6 : SV) (w5 : World),
                                      Sem.run Pr (Builtin.append_ #[22, 22] 22 #[(.slice s5.a s5.len s5.cap), (.slice (cutAt σ1.2.1.a 0 σ1.2.1.cap 1) ((Int.toNat σ2.1) - 0) (σ1.2.1.cap - 0))]) w4 = .ok (.slice s6.a s6.len s6.cap) w5 ∧
                                      ∃ (S5 : World → Prop),
                                      S5 w5 ∧
                                      ∃ (s7 : SV) (w6 : World),
                                      Sem.run Pr (Instr.buildSlice 22 1 #[(0, (.slice s2.a s2.len s2.cap))]) w5 = .ok (.slice s7.a s7.len s7.cap) w6 ∧
                                      ∃ (S6 : World → Prop),
                                      S6 w6 ∧
                                      ∃ (s8 : SV) (w7 : World),
                                      Sem.run Pr (Builtin.append_ #[22, 22] 22 #[(.slice s6.a s6.len s6.cap), (.slice s7.a s7.len s7.cap)]) w6 = .ok (.slice s8.a s8.len s8.cap) w7 ∧
                                      ∃ (S7 : World → Prop),
                                      S7 w7 ∧
                                      ∃ (s9 : SV) (w8 : World),
                                      Sem.run Pr (Builtin.append_ #[22, 22] 22 #[(.slice s8.a s8.len s8.cap), (.slice (cutAt σ1.2.1.a (Int.toNat σ2.1) σ1.2.1.cap 1) (σ1.2.1.len - (Int.toNat σ2.1)) (σ1.2.1.cap - (Int.toNat σ2.1)))]) w7 = .ok (.slice s9.a s9.len s9.cap) w8 ∧
                                      ∃ (S8 : World → Prop),
                                      S8 w8 ∧
                                      K1 (IntKind.wrap .i64 (σ1.1 + 1), s9, ()) w8) ∧
                                      ∃ (s10 : SV) (w9 : World),
                                      Sem.run Pr (Instr.buildSlice 22 1 #[(0, (.slice s2.a s2.len s2.cap))]) w4 = .ok (.slice s10.a s10.len s10.cap) w9 ∧
                                      ∃ (S9 : World → Prop),
                                      S9 w9 ∧
                                      ∃ (s11 : SV) (w10 : World),
                                      Sem.run Pr (Builtin.append_ #[22, 22] 22 #[(.slice s5.a s5.len s5.cap), (.slice (cutAt σ1.2.1.a 0 σ1.2.1.cap 1) ((Int.toNat σ2.1) - 0) (σ1.2.1.cap - 0))]) w9 = .ok (.slice s11.a s11.len s11.cap) w10 ∧
                                      ∃ (S10 : World → Prop),
                                      S10 w10 ∧
                                      ∃ (s12 : SV) (w11 : World),
                                      Sem.run Pr (Builtin.append_ #[22, 22] 22 #[(.slice s11.a s11.len s11.cap), (.slice s10.a s10.len s10.cap)]) w10 = .ok (.slice s12.a s12.len s12.cap) w11 ∧
                                      ∃ (S11 : World → Prop),
                                      S11 w11 ∧
                                      ∃ (s13 : SV) (w12 : World),
                                      Sem.run Pr (Builtin.append_ #[22, 22] 22 #[(.slice s12.a s12.len s12.cap), (.slice (cutAt σ1.2.1.a (Int.toNat σ2.1) σ1.2.1.cap 1) (σ1.2.1.len - (Int.toNat σ2.1)) (σ1.2.1.cap - (Int.toNat σ2.1)))]) w11 = .ok (.slice s13.a s13.len s13.cap) w12 ∧
                                      ∃ (S12 : World → Prop),
                                      S12 w12 ∧
                                      K1 (IntKind.wrap .i64 (σ1.1 + 1), s13, ()) w12) ∧
                                      ∃ (s14 : SV) (w13 : World),
                                      Sem.run Pr (Instr.buildSlice 22 1 #[(0, (.slice s2.a s2.len s2.cap))]) (World.drew (World.drew (World.drew w3))) = .ok (.slice s14.a s14.len s14.cap) w13 ∧
                                      ∃ (S13 : World → Prop),
                                      S13 w13 ∧
                                      ∃ (s15 : SV) (w14 : World),
                                      Sem.run Pr (Instr.buildSlice 22 0 #[]) w13 = .ok (.slice s15.a s15.len s15.cap) w14 ∧
                                      ∃ (S14 : World → Prop),
                                      S14 w14 ∧
                                      ∃ (s16 : SV) (w15 : World),
                                      Sem.run Pr (Builtin.append_ #[22, 22] 22 #[(.slice s15.a s15.len s15.cap), (.slice (cutAt σ1.2.1.a 0 σ1.2.1.cap 1) ((Int.toNat σ2.1) - 0) (σ1.2.1.cap - 0))]) w14 = .ok (.slice s16.a s16.len s16.cap) w15 ∧
                                      ∃ (S15 : World → Prop),
                                      S15 w15 ∧
                                      ∃ (s17 : SV) (w16 : World),
                                      Sem.run Pr (Builtin.append_ #[22, 22] 22 #[(.slice s16.a s16.len s16.cap), (.slice s14.a s14.len s14.cap)]) w15 = .ok (.slice s17.a s17.len s17.cap) w16 ∧
                                      ∃ (S16 : World → Prop),
                                      S16 w16 ∧
                                      ∃ (s18 : SV) (w17 : World),
                                      Sem.run Pr (Builtin.append_ #[22, 22] 22 #[(.slice s17.a s17.len s17.cap), (.slice (cutAt σ1.2.1.a (Int.toNat σ2.1) σ1.2.1.cap 1) (σ1.2.1.len - (Int.toNat σ2.1)) (σ1.2.1.cap - (Int.toNat σ2.1)))]) w16 = .ok (.slice s18.a s18.len s18.cap) w17 ∧
                                      ∃ (S17 : World → Prop),
                                      S17 w17 ∧
                                      K1 (IntKind.wrap .i64 (σ1.1 + 1), s18, ()) w17))
                              (∃ (S18 : World → Prop),
                                S18 (World.drew (World.drew (World.drew w3))) ∧
                                ((0 : Int) ≤ σ2.1 ∧ σ2.1 ≤ ((σ1.2.1.cap : Nat) : Int)) ∧
                                ((0 : Int) ≤ σ2.1 ∧ σ2.1 ≤ ((σ1.2.1.len : Nat) : Int)) ∧
                                (∃ (s19 : SV) (w18 : World),
                                Sem.run Pr (Instr.buildSlice 22 0 #[]) (World.drew (World.drew (World.drew w3))) = .ok (.slice s19.a s19.len s19.cap) w18 ∧
                                ∃ (S19 : World → Prop),
                                S19 w18 ∧
                                (∃ (s20 : SV) (w19 : World),
                                Sem.run Pr (Builtin.append_ #[22, 22] 22 #[(.slice s19.a s19.len s19.cap), (.slice (cutAt σ1.2.1.a 0 σ1.2.1.cap 1) ((Int.toNat σ2.1) - 0) (σ1.2.1.cap - 0))]) w18 = .ok (.slice s20.a s20.len s20.cap) w19 ∧
                                ∃ (S20 : World → Prop),
                                S20 w19 ∧
                                ∃ (s21 : SV) (w20 : World),
                                Sem.run Pr (Instr.buildSlice 22 1 #[(0, (.slice s2.a s2.len s2.cap))]) w19 = .ok (.slice s21.a s21.len s21.cap) w20 ∧
                                ∃ (S21 : World → Prop),
                                S21 w20 ∧
                                ∃ (s22 : SV) (w21 : World),
                                Sem.run Pr (Builtin.append_ #[22, 22] 22 #[(.slice s20.a s20.len s20.cap), (.slice s21.a s21.len s21.cap)]) w20 = .ok (.slice s22.a s22.len s22.cap) w21 ∧
                                ∃ (S22 : World → Prop),
                                S22 w21 ∧
                                ∃ (s23 : SV) (w22 : World),
                                Sem.run Pr (Builtin.append_ #[22, 22] 22 #[(.slice s22.a s22.len s22.cap), (.slice (cutAt σ1.2.1.a (Int.toNat σ2.1) σ1.2.1.cap 1) (σ1.2.1.len - (Int.toNat σ2.1)) (σ1.2.1.cap - (Int.toNat σ2.1)))]) w21 = .ok (.slice s23.a s23.len s23.cap) w22 ∧
                                ∃ (S23 : World → Prop),
                                S23 w22 ∧
                                K1 (IntKind.wrap .i64 (σ1.1 + 1), s23, ()) w22) ∧
                                ∃ (s24 : SV) (w23 : World),
                                Sem.run Pr (Instr.buildSlice 22 1 #[(0, (.slice s2.a s2.len s2.cap))]) w18 = .ok (.slice s24.a s24.len s24.cap) w23 ∧
                                ∃ (S24 : World → Prop),
                                S24 w23 ∧
                                ∃ (s25 : SV) (w24 : World),
                                Sem.run Pr (Builtin.append_ #[22, 22] 22 #[(.slice s19.a s19.len s19.cap), (.slice (cutAt σ1.2.1.a 0 σ1.2.1.cap 1) ((Int.toNat σ2.1) - 0) (σ1.2.1.cap - 0))]) w23 = .ok (.slice s25.a s25.len s25.cap) w24 ∧
                                ∃ (S25 : World → Prop),
                                S25 w24 ∧
                                ∃ (s26 : SV) (w25 : World),
                                Sem.run Pr (Builtin.append_ #[22, 22] 22 #[(.slice s25.a s25.len s25.cap), (.slice s24.a s24.len s24.cap)]) w24 = .ok (.slice s26.a s26.len s26.cap) w25 ∧
                                ∃ (S26 : World → Prop),
                                S26 w25 ∧
                                ∃ (s27 : SV) (w26 : World),
                                Sem.run Pr (Builtin.append_ #[22, 22] 22 #[(.slice s26.a s26.len s26.cap), (.slice (cutAt σ1.2.1.a (Int.toNat σ2.1) σ1.2.1.cap 1) (σ1.2.1.len - (Int.toNat σ2.1)) (σ1.2.1.cap - (Int.toNat σ2.1)))]) w25 = .ok (.slice s27.a s27.len s27.cap) w26 ∧
                                ∃ (S27 : World → Prop),
                                S27 w26 ∧
                                K1 (IntKind.wrap .i64 (σ1.1 + 1), s27, ()) w26) ∧
                                ∃ (s28 : SV) (w27 : World),
                                Sem.run Pr (Instr.buildSlice 22 1 #[(0, (.slice s2.a s2.len s2.cap))]) (World.drew (World.drew (World.drew w3))) = .ok (.slice s28.a s28.len s28.cap) w27 ∧
                                ∃ (S28 : World → Prop),
                                S28 w27 ∧
                                ∃ (s29 : SV) (w28 : World),
                                Sem.run Pr (Instr.buildSlice 22 0 #[]) w27 = .ok (.slice s29.a s29.len s29.cap) w28 ∧
                                ∃ (S29 : World → Prop),
                                S29 w28 ∧
                                ∃ (s30 : SV) (w29 : World),
                                Sem.run Pr (Builtin.append_ #[22, 22] 22 #[(.slice s29.a s29.len s29.cap), (.slice (cutAt σ1.2.1.a 0 σ1.2.1.cap 1) ((Int.toNat σ2.1) - 0) (σ1.2.1.cap - 0))]) w28 = .ok (.slice s30.a s30.len s30.cap) w29 ∧
                                ∃ (S30 : World → Prop),
                                S30 w29 ∧
                                ∃ (s31 : SV) (w30 : World),
                                Sem.run Pr (Builtin.append_ #[22, 22] 22 #[(.slice s30.a s30.len s30.cap), (.slice s28.a s28.len s28.cap)]) w29 = .ok (.slice s31.a s31.len s31.cap) w30 ∧
                                ∃ (S31 : World → Prop),
                                S31 w30 ∧
                                ∃ (s32 : SV) (w31 : World),
                                Sem.run Pr (Builtin.append_ #[22, 22] 22 #[(.slice s31.a s31.len s31.cap), (.slice (cutAt σ1.2.1.a (Int.toNat σ2.1) σ1.2.1.cap 1) (σ1.2.1.len - (Int.toNat σ2.1)) (σ1.2.1.cap - (Int.toNat σ2.1)))]) w30 = .ok (.slice s32.a s32.len s32.cap) w31 ∧
                                ∃ (S32 : World → Prop),
                                S32 w31 ∧
                                K1 (IntKind.wrap .i64 (σ1.1 + 1), s32, ()) w31)))
                    (∃ (S33 : World → Prop),
                      S33 (World.drew (World.drew w3)) ∧
                      brc (decide (σ2.1 < ((σ1.2.1.len : Nat) : Int)))
                        (((0 : Int) ≤ σ2.1 ∧ σ2.1 < ((σ1.2.1.len : Nat) : Int)) ∧
                          optK σ1.2.1.a fun a4 =>
                            ∃ (s33 : SV),
                            AtS Pr S33 (loadVar 26 (Addr.add a4 (Int.toNat σ2.1 * 1))) (.slice s33.a s33.len s33.cap) ∧
                            ∃ (str5 : ByteArray),
                            AtS Pr S33 (convert 26 9 (.slice s33.a s33.len s33.cap)) (.string str5) ∧
                            ∃ (str6 : ByteArray),
                            AtS Pr S33 (convert 26 9 (.slice s2.a s2.len s2.cap)) (.string str6) ∧
                            brc ((ByteArray.toList str5 == ByteArray.toList str6))
                              (K1 (IntKind.wrap .i64 (σ1.1 + 1), σ1.2.1, ()) (World.drew (World.drew w3)))
                              (∃ (S34 : World → Prop),
                                S34 (World.drew (World.drew (World.drew w3))) ∧
                                ((0 : Int) ≤ σ2.1 ∧ σ2.1 ≤ ((σ1.2.1.cap : Nat) : Int)) ∧
                                ((0 : Int) ≤ σ2.1 ∧ σ2.1 ≤ ((σ1.2.1.len : Nat) : Int)) ∧
                                (∃ (s34 : SV) (w32 : World),
                                Sem.run Pr (Instr.buildSlice 22 0 #[]) (World.drew (World.drew (World.drew w3))) = .ok (.slice s34.a s34.len s34.cap) w32 ∧
                                ∃ (S35 : World → Prop),
                                S35 w32 ∧
                                (∃ (s35 : SV) (w33 : World),
                                Sem.run Pr (Builtin.append_ #[22, 22] 22 #[(.slice s34.a s34.len s34.cap), (.slice (cutAt σ1.2.1.a 0 σ1.2.1.cap 1) ((Int.toNat σ2.1) - 0) (σ1.2.1.cap - 0))]) w32 = .ok (.slice s35.a s35.len s35.cap) w33 ∧
                                ∃ (S36 : World → Prop),
                                S36 w33 ∧
                                ∃ (s36 : SV) (w34 : World),
                                Sem.run Pr (Instr.buildSlice 22 1 #[(0, (.slice s2.a s2.len s2.cap))]) w33 = .ok (.slice s36.a s36.len s36.cap) w34 ∧
                                ∃ (S37 : World → Prop),
                                S37 w34 ∧
                                ∃ (s37 : SV) (w35 : World),
                                Sem.run Pr (Builtin.append_ #[22, 22] 22 #[(.slice s35.a s35.len s35.cap), (.slice s36.a s36.len s36.cap)]) w34 = .ok (.slice s37.a s37.len s37.cap) w35 ∧
                                ∃ (S38 : World → Prop),
                                S38 w35 ∧
                                ∃ (s38 : SV) (w36 : World),
                                Sem.run Pr (Builtin.append_ #[22, 22] 22 #[(.slice s37.a s37.len s37.cap), (.slice (cutAt σ1.2.1.a (Int.toNat σ2.1) σ1.2.1.cap 1) (σ1.2.1.len - (Int.toNat σ2.1)) (σ1.2.1.cap - (Int.toNat σ2.1)))]) w35 = .ok (.slice s38.a s38.len s38.cap) w36 ∧
                                ∃ (S39 : World → Prop),
                                S39 w36 ∧
                                K1 (IntKind.wrap .i64 (σ1.1 + 1), s38, ()) w36) ∧
                                ∃ (s39 : SV) (w37 : World),
                                Sem.run Pr (Instr.buildSlice 22 1 #[(0, (.slice s2.a s2.len s2.cap))]) w32 = .ok (.slice s39.a s39.len s39.cap) w37 ∧
                                ∃ (S40 : World → Prop),
                                S40 w37 ∧
                                ∃ (s40 : SV) (w38 : World),
                                Sem.run Pr (Builtin.append_ #[22, 22] 22 #[(.slice s34.a s34.len s34.cap), (.slice (cutAt σ1.2.1.a 0 σ1.2.1.cap 1) ((Int.toNat σ2.1) - 0) (σ1.2.1.cap - 0))]) w37 = .ok (.slice s40.a s40.len s40.cap) w38 ∧
                                ∃ (S41 : World → Prop),
                                S41 w38 ∧
                                ∃ (s41 : SV) (w39 : World),
                                Sem.run Pr (Builtin.append_ #[22, 22] 22 #[(.slice s40.a s40.len s40.cap), (.slice s39.a s39.len s39.cap)]) w38 = .ok (.slice s41.a s41.len s41.cap) w39 ∧
                                ∃ (S42 : World → Prop),
                                S42 w39 ∧
                                ∃ (s42 : SV) (w40 : World),
                                Sem.run Pr (Builtin.append_ #[22, 22] 22 #[(.slice s41.a s41.len s41.cap), (.slice (cutAt σ1.2.1.a (Int.toNat σ2.1) σ1.2.1.cap 1) (σ1.2.1.len - (Int.toNat σ2.1)) (σ1.2.1.cap - (Int.toNat σ2.1)))]) w39 = .ok (.slice s42.a s42.len s42.cap) w40 ∧
                                ∃ (S43 : World → Prop),
                                S43 w40 ∧
                                K1 (IntKind.wrap .i64 (σ1.1 + 1), s42, ()) w40) ∧
                                ∃ (s43 : SV) (w41 : World),
                                Sem.run Pr (Instr.buildSlice 22 1 #[(0, (.slice s2.a s2.len s2.cap))]) (World.drew (World.drew (World.drew w3))) = .ok (.slice s43.a s43.len s43.cap) w41 ∧
                                ∃ (S44 : World → Prop),
                                S44 w41 ∧
                                ∃ (s44 : SV) (w42 : World),
                                Sem.run Pr (Instr.buildSlice 22 0 #[]) w41 = .ok (.slice s44.a s44.len s44.cap) w42 ∧
                                ∃ (S45 : World → Prop),
                                S45 w42 ∧
                                ∃ (s45 : SV) (w43 : World),
                                Sem.run Pr (Builtin.append_ #[22, 22] 22 #[(.slice s44.a s44.len s44.cap), (.slice (cutAt σ1.2.1.a 0 σ1.2.1.cap 1) ((Int.toNat σ2.1) - 0) (σ1.2.1.cap - 0))]) w42 = .ok (.slice s45.a s45.len s45.cap) w43 ∧
                                ∃ (S46 : World → Prop),
                                S46 w43 ∧
                                ∃ (s46 : SV) (w44 : World),
                                Sem.run Pr (Builtin.append_ #[22, 22] 22 #[(.slice s45.a s45.len s45.cap), (.slice s43.a s43.len s43.cap)]) w43 = .ok (.slice s46.a s46.len s46.cap) w44 ∧
                                ∃ (S47 : World → Prop),
                                S47 w44 ∧
                                ∃ (s47 : SV) (w45 : World),
                                Sem.run Pr (Builtin.append_ #[22, 22] 22 #[(.slice s46.a s46.len s46.cap), (.slice (cutAt σ1.2.1.a (Int.toNat σ2.1) σ1.2.1.cap 1) (σ1.2.1.len - (Int.toNat σ2.1)) (σ1.2.1.cap - (Int.toNat σ2.1)))]) w44 = .ok (.slice s47.a s47.len s47.cap) w45 ∧
                                ∃ (S48 : World → Prop),
                                S48 w45 ∧
                                K1 (IntKind.wrap .i64 (σ1.1 + 1), s47, ()) w45))
                        (∃ (S49 : World → Prop),
                          S49 (World.drew (World.drew (World.drew w3))) ∧
                          ((0 : Int) ≤ σ2.1 ∧ σ2.1 ≤ ((σ1.2.1.cap : Nat) : Int)) ∧
                          ((0 : Int) ≤ σ2.1 ∧ σ2.1 ≤ ((σ1.2.1.len : Nat) : Int)) ∧
                          (∃ (s48 : SV) (w46 : World),
                          Sem.run Pr (Instr.buildSlice 22 0 #[]) (World.drew (World.drew (World.drew w3))) = .ok (.slice s48.a s48.len s48.cap) w46 ∧
                          ∃ (S50 : World → Prop),
                          S50 w46 ∧
                          (∃ (s49 : SV) (w47 : World),
                          Sem.run Pr (Builtin.append_ #[22, 22] 22 #[(.slice s48.a s48.len s48.cap), (.slice (cutAt σ1.2.1.a 0 σ1.2.1.cap 1) ((Int.toNat σ2.1) - 0) (σ1.2.1.cap - 0))]) w46 = .ok (.slice s49.a s49.len s49.cap) w47 ∧
                          ∃ (S51 : World → Prop),
                          S51 w47 ∧
                          ∃ (s50 : SV) (w48 : World),
                          Sem.run Pr (Instr.buildSlice 22 1 #[(0, (.slice s2.a s2.len s2.cap))]) w47 = .ok (.slice s50.a s50.len s50.cap) w48 ∧
                          ∃ (S52 : World → Prop),
                          S52 w48 ∧
                          ∃ (s51 : SV) (w49 : World),
                          Sem.run Pr (Builtin.append_ #[22, 22] 22 #[(.slice s49.a s49.len s49.cap), (.slice s50.a s50.len s50.cap)]) w48 = .ok (.slice s51.a s51.len s51.cap) w49 ∧
                          ∃ (S53 : World → Prop),
                          S53 w49 ∧
                          ∃ (s52 : SV) (w50 : World),
                          Sem.run Pr (Builtin.append_ #[22, 22] 22 #[(.slice s51.a s51.len s51.cap), (.slice (cutAt σ1.2.1.a (Int.toNat σ2.1) σ1.2.1.cap 1) (σ1.2.1.len - (Int.toNat σ2.1)) (σ1.2.1.cap - (Int.toNat σ2.1)))]) w49 = .ok (.slice s52.a s52.len s52.cap) w50 ∧
                          ∃ (S54 : World → Prop),
                          S54 w50 ∧
                          K1 (IntKind.wrap .i64 (σ1.1 + 1), s52, ()) w50) ∧
                          ∃ (s53 : SV) (w51 : World),
                          Sem.run Pr (Instr.buildSlice 22 1 #[(0, (.slice s2.a s2.len s2.cap))]) w46 = .ok (.slice s53.a s53.len s53.cap) w51 ∧
                          ∃ (S55 : World → Prop),
                          S55 w51 ∧
                          ∃ (s54 : SV) (w52 : World),
                          Sem.run Pr (Builtin.append_ #[22, 22] 22 #[(.slice s48.a s48.len s48.cap), (.slice (cutAt σ1.2.1.a 0 σ1.2.1.cap 1) ((Int.toNat σ2.1) - 0) (σ1.2.1.cap - 0))]) w51 = .ok (.slice s54.a s54.len s54.cap) w52 ∧
                          ∃ (S56 : World → Prop),
                          S56 w52 ∧
                          ∃ (s55 : SV) (w53 : World),
                          Sem.run Pr (Builtin.append_ #[22, 22] 22 #[(.slice s54.a s54.len s54.cap), (.slice s53.a s53.len s53.cap)]) w52 = .ok (.slice s55.a s55.len s55.cap) w53 ∧
                          ∃ (S57 : World → Prop),
                          S57 w53 ∧
                          ∃ (s56 : SV) (w54 : World),
                          Sem.run Pr (Builtin.append_ #[22, 22] 22 #[(.slice s55.a s55.len s55.cap), (.slice (cutAt σ1.2.1.a (Int.toNat σ2.1) σ1.2.1.cap 1) (σ1.2.1.len - (Int.toNat σ2.1)) (σ1.2.1.cap - (Int.toNat σ2.1)))]) w53 = .ok (.slice s56.a s56.len s56.cap) w54 ∧
                          ∃ (S58 : World → Prop),
                          S58 w54 ∧
                          K1 (IntKind.wrap .i64 (σ1.1 + 1), s56, ()) w54) ∧
                          ∃ (s57 : SV) (w55 : World),
                          Sem.run Pr (Instr.buildSlice 22 1 #[(0, (.slice s2.a s2.len s2.cap))]) (World.drew (World.drew (World.drew w3))) = .ok (.slice s57.a s57.len s57.cap) w55 ∧
                          ∃ (S59 : World → Prop),
                          S59 w55 ∧
                          ∃ (s58 : SV) (w56 : World),
                          Sem.run Pr (Instr.buildSlice 22 0 #[]) w55 = .ok (.slice s58.a s58.len s58.cap) w56 ∧
                          ∃ (S60 : World → Prop),
                          S60 w56 ∧
                          ∃ (s59 : SV) (w57 : World),
                          Sem.run Pr (Builtin.append_ #[22, 22] 22 #[(.slice s58.a s58.len s58.cap), (.slice (cutAt σ1.2.1.a 0 σ1.2.1.cap 1) ((Int.toNat σ2.1) - 0) (σ1.2.1.cap - 0))]) w56 = .ok (.slice s59.a s59.len s59.cap) w57 ∧
                          ∃ (S61 : World → Prop),
                          S61 w57 ∧
                          ∃ (s60 : SV) (w58 : World),
                          Sem.run Pr (Builtin.append_ #[22, 22] 22 #[(.slice s59.a s59.len s59.cap), (.slice s57.a s57.len s57.cap)]) w57 = .ok (.slice s60.a s60.len s60.cap) w58 ∧
                          ∃ (S62 : World → Prop),
                          S62 w58 ∧
                          ∃ (s61 : SV) (w59 : World),
                          Sem.run Pr (Builtin.append_ #[22, 22] 22 #[(.slice s60.a s60.len s60.cap), (.slice (cutAt σ1.2.1.a (Int.toNat σ2.1) σ1.2.1.cap 1) (σ1.2.1.len - (Int.toNat σ2.1)) (σ1.2.1.cap - (Int.toNat σ2.1)))]) w58 = .ok (.slice s61.a s61.len s61.cap) w59 ∧
                          ∃ (S63 : World → Prop),
                          S63 w59 ∧
                          K1 (IntKind.wrap .i64 (σ1.1 + 1), s61, ()) w59))) (0, ()) w2))
        (R (.slice σ1.2.1.a σ1.2.1.len σ1.2.1.cap) w2)) (0, SV.mk none 0 0, ()) w1

theorem call26 {x0 : SV} {w0 : World} {R : Ending → World → Prop} (h : ir26 x0 w0 fun v w => R (.returned v) w) : Calls Pr 26 #[.slice x0.a x0.len x0.cap] w0 R := by
  refine calls_of_vc (ann := [(3, [(10, .int .i64), (3, .slice)]), (7, [(6, .int .i64)])]) (E := []) (args := [.slice x0.a x0.len x0.cap]) follows Try.func26 rfl (by kernel_rfl) ?_
  apply by_eq h
  kernel_rfl

/-- creel/run.All -/
def ir29 (x0 : SV) (w0 : World) (R : Value → World → Prop) : Prop :=
  ∃ (a1 : Addr) (w1 : World),
  Sem.run Pr (Instr.box 26 (.slice x0.a x0.len x0.cap)) w0 = .ok (.pointer (some a1)) w1 ∧
  R (.func (.func 89) #[] #[(.pointer (some a1))]) w1

theorem call29 {x0 : SV} {w0 : World} {R : Ending → World → Prop} (h : ir29 x0 w0 fun v w => R (.returned v) w) : Calls Pr 29 #[.slice x0.a x0.len x0.cap] w0 R := by
  refine calls_of_vc (ann := []) (E := []) (args := [.slice x0.a x0.len x0.cap]) follows Try.func29 rfl (by kernel_rfl) ?_
  apply by_eq h
  kernel_rfl

/-- creel/creelref03.Same -/
def ir30 (x0 : SV) (x1 : SV) (w0 : World) (R : Value → World → Prop) : Prop :=
  brc (((x0.len : Nat) : Int) != ((x1.len : Nat) : Int))
    (R (.bool false) w0)
    (LoopT (σ := Int × Unit) (fun σ1 w1 K1 =>
        ∀ _ : Env,
        brc (decide (σ1.1 < ((x0.len : Nat) : Int)))
          (∃ (S1 : World → Prop),
            S1 (World.drew w1) ∧
            ((0 : Int) ≤ σ1.1 ∧ σ1.1 < ((x0.len : Nat) : Int)) ∧
            optK x0.a fun a1 =>
              ∃ (s1 : SV),
              AtS Pr S1 (loadVar 26 (Addr.add a1 (Int.toNat σ1.1 * 1))) (.slice s1.a s1.len s1.cap) ∧
              ∃ (str1 : ByteArray),
              AtS Pr S1 (convert 26 9 (.slice s1.a s1.len s1.cap)) (.string str1) ∧
              ((0 : Int) ≤ σ1.1 ∧ σ1.1 < ((x1.len : Nat) : Int)) ∧
              optK x1.a fun a2 =>
                ∃ (s2 : SV),
                AtS Pr S1 (loadVar 26 (Addr.add a2 (Int.toNat σ1.1 * 1))) (.slice s2.a s2.len s2.cap) ∧
                ∃ (str2 : ByteArray),
                AtS Pr S1 (convert 26 9 (.slice s2.a s2.len s2.cap)) (.string str2) ∧
                brc (!(ByteArray.toList str1 == ByteArray.toList str2))
                  (R (.bool false) (World.drew w1))
                  (K1 (IntKind.wrap .i64 (σ1.1 + 1), ()) (World.drew w1)))
          (R (.bool true) w1)) (0, ()) w0)

theorem call30 {x0 : SV} {x1 : SV} {w0 : World} {R : Ending → World → Prop} (h : ir30 x0 x1 w0 fun v w => R (.returned v) w) : Calls Pr 30 #[.slice x0.a x0.len x0.cap, .slice x1.a x1.len x1.cap] w0 R := by
  refine calls_of_vc (ann := [(4, [(5, .int .i64)])]) (E := []) (args := [.slice x0.a x0.len x0.cap, .slice x1.a x1.len x1.cap]) follows Try.func30 rfl (by kernel_rfl) ?_
  apply by_eq h
  kernel_rfl

/-- creel/creelref13.List -/
def ir31 (x0 : SV) (w0 : World) (R : Value → World → Prop) : Prop :=
  Calls Pr 90 #[(.slice x0.a x0.len x0.cap)] w0 fun e1 w1 =>
    ∃ (s1 : SV) (n1 : Int),
    e1 = .returned (.tuple #[(.slice s1.a s1.len s1.cap), (.int .i64 n1)]) ∧
    LoopT (σ := Int × SV × Unit) (fun σ1 w2 K1 =>
      ∀ _ : Env,
      brc (decide (σ1.1 < ((s1.len : Nat) : Int)))
        (∃ (S1 : World → Prop),
          S1 (World.drew w2) ∧
          ((0 : Int) ≤ σ1.1 ∧ σ1.1 < ((s1.len : Nat) : Int)) ∧
          optK s1.a fun a1 =>
            ∃ (s2 : SV),
            AtS Pr S1 (loadVar 26 (Addr.add a1 (Int.toNat σ1.1 * 1))) (.slice s2.a s2.len s2.cap) ∧
            brc (decide (((s2.len : Nat) : Int) > (64 : Int)))
              (∃ (s3 : SV) (w3 : World),
                Sem.run Pr (Instr.buildSlice 52 1 #[(0, (.agg #[(.slice none 0 0), (.int .i64 6)]))]) (World.drew w2) = .ok (.slice s3.a s3.len s3.cap) w3 ∧
                ∃ (s4 : SV) (w4 : World),
                Sem.run Pr (Builtin.append_ #[52, 52] 52 #[(.slice σ1.2.1.a σ1.2.1.len σ1.2.1.cap), (.slice s3.a s3.len s3.cap)]) w3 = .ok (.slice s4.a s4.len s4.cap) w4 ∧
                R (.slice s4.a s4.len s4.cap) w4)
              (brc (decide (σ1.1 > (0 : Int)))
                  (((0 : Int) ≤ (IntKind.wrap .i64 (σ1.1 - 1)) ∧ (IntKind.wrap .i64 (σ1.1 - 1)) < ((s1.len : Nat) : Int)) ∧
                    optK s1.a fun a2 =>
                      ∃ (s5 : SV),
                      AtS Pr S1 (loadVar 26 (Addr.add a2 (Int.toNat (IntKind.wrap .i64 (σ1.1 - 1)) * 1))) (.slice s5.a s5.len s5.cap) ∧
                      ∃ (str1 : ByteArray),
                      AtS Pr S1 (convert 26 9 (.slice s5.a s5.len s5.cap)) (.string str1) ∧
                      ((0 : Int) ≤ σ1.1 ∧ σ1.1 < ((s1.len : Nat) : Int)) ∧
                      optK s1.a fun a3 =>
                        ∃ (s6 : SV),
                        AtS Pr S1 (loadVar 26 (Addr.add a3 (Int.toNat σ1.1 * 1))) (.slice s6.a s6.len s6.cap) ∧
                        ∃ (str2 : ByteArray),
                        AtS Pr S1 (convert 26 9 (.slice s6.a s6.len s6.cap)) (.string str2) ∧
                        brc (!(Op.bytesLess (ByteArray.toList str1) (ByteArray.toList str2)))
                          (∃ (s7 : SV) (w5 : World),
                            Sem.run Pr (Instr.buildSlice 52 1 #[(0, (.agg #[(.slice none 0 0), (.int .i64 6)]))]) (World.drew w2) = .ok (.slice s7.a s7.len s7.cap) w5 ∧
                            ∃ (s8 : SV) (w6 : World),
                            Sem.run Pr (Builtin.append_ #[52, 52] 52 #[(.slice σ1.2.1.a σ1.2.1.len σ1.2.1.cap), (.slice s7.a s7.len s7.cap)]) w5 = .ok (.slice s8.a s8.len s8.cap) w6 ∧
                            R (.slice s8.a s8.len s8.cap) w6)
                          (((0 : Int) ≤ σ1.1 ∧ σ1.1 < ((s1.len : Nat) : Int)) ∧
                            optK s1.a fun a4 =>
                              ∃ (s9 : SV),
                              At Pr (World.drew w2) (loadVar 26 (Addr.add a4 (Int.toNat σ1.1 * 1))) (.slice s9.a s9.len s9.cap) ∧
                              ∃ (s10 : SV) (w7 : World),
                              Sem.run Pr (Instr.buildSlice 52 1 #[(0, (.agg #[(.slice s9.a s9.len s9.cap), (.int .i64 0)]))]) (World.drew w2) = .ok (.slice s10.a s10.len s10.cap) w7 ∧
                              ∃ (s11 : SV) (w8 : World),
                              Sem.run Pr (Builtin.append_ #[52, 52] 52 #[(.slice σ1.2.1.a σ1.2.1.len σ1.2.1.cap), (.slice s10.a s10.len s10.cap)]) w7 = .ok (.slice s11.a s11.len s11.cap) w8 ∧
                              K1 (IntKind.wrap .i64 (σ1.1 + 1), s11, ()) w8))
                  (((0 : Int) ≤ σ1.1 ∧ σ1.1 < ((s1.len : Nat) : Int)) ∧
                    optK s1.a fun a5 =>
                      ∃ (s12 : SV),
                      At Pr (World.drew w2) (loadVar 26 (Addr.add a5 (Int.toNat σ1.1 * 1))) (.slice s12.a s12.len s12.cap) ∧
                      ∃ (s13 : SV) (w9 : World),
                      Sem.run Pr (Instr.buildSlice 52 1 #[(0, (.agg #[(.slice s12.a s12.len s12.cap), (.int .i64 0)]))]) (World.drew w2) = .ok (.slice s13.a s13.len s13.cap) w9 ∧
                      ∃ (s14 : SV) (w10 : World),
                      Sem.run Pr (Builtin.append_ #[52, 52] 52 #[(.slice σ1.2.1.a σ1.2.1.len σ1.2.1.cap), (.slice s13.a s13.len s13.cap)]) w9 = .ok (.slice s14.a s14.len s14.cap) w10 ∧
                      K1 (IntKind.wrap .i64 (σ1.1 + 1), s14, ()) w10)))
        (brc (decide (n1 < ((x0.len : Nat) : Int)))
            (∃ (s15 : SV) (w11 : World),
              Sem.run Pr (Instr.buildSlice 52 1 #[(0, (.agg #[(.slice none 0 0), (.int .i64 6)]))]) w2 = .ok (.slice s15.a s15.len s15.cap) w11 ∧
              ∃ (s16 : SV) (w12 : World),
              Sem.run Pr (Builtin.append_ #[52, 52] 52 #[(.slice σ1.2.1.a σ1.2.1.len σ1.2.1.cap), (.slice s15.a s15.len s15.cap)]) w11 = .ok (.slice s16.a s16.len s16.cap) w12 ∧
              R (.slice s16.a s16.len s16.cap) w12)
            (R (.slice σ1.2.1.a σ1.2.1.len σ1.2.1.cap) w2))) (0, SV.mk none 0 0, ()) w1

theorem call31 {x0 : SV} {w0 : World} {R : Ending → World → Prop} (h : ir31 x0 w0 fun v w => R (.returned v) w) : Calls Pr 31 #[.slice x0.a x0.len x0.cap] w0 R := by
  refine calls_of_vc (ann := [(4, [(6, .int .i64), (3, .slice)])]) (E := []) (args := [.slice x0.a x0.len x0.cap]) follows Try.func31 rfl (by kernel_rfl) ?_
  apply by_eq h
  kernel_rfl

/-- creel/run.Open -/
def ir34 (x0 : Option Addr) (x1 : ByteArray) (w0 : World) (R : Value → World → Prop) : Prop :=
  Calls Pr 28 #[(.pointer x0), (.string x1)] w0 fun e1 w1 =>
    ∃ (s1 : SV) (n1 : Int),
    e1 = .returned (.tuple #[(.slice s1.a s1.len s1.cap), (.int .i64 n1)]) ∧
    brc (n1 != (0 : Int))
      (R (.tuple #[(.pointer none), (.int .i64 n1)]) w1)
      (∃ (a1 : Addr) (w2 : World),
        Sem.run Pr (Instr.box 130 (.agg #[(.slice s1.a s1.len s1.cap), (.slice none 0 0), (.bool false), (.bool false)])) w1 = .ok (.pointer (some a1)) w2 ∧
        R (.tuple #[(.pointer (some a1)), (.int .i64 0)]) w2)

theorem call34 {x0 : Option Addr} {x1 : ByteArray} {w0 : World} {R : Ending → World → Prop} (h : ir34 x0 x1 w0 fun v w => R (.returned v) w) : Calls Pr 34 #[.pointer x0, .string x1] w0 R := by
  refine calls_of_vc (ann := []) (E := []) (args := [.pointer x0, .string x1]) follows Try.func34 rfl (by kernel_rfl) ?_
  apply by_eq h
  kernel_rfl

/-- creel/creellaw04.did -/
def ir39 (x0 : Option Addr) (x1_Kind : Int) (x1_Name : ByteArray) (x1_To : ByteArray) (x1_B : SV) (x1_N : Int) (x1_W_Names : Int) (x1_W_Bytes : SV) (w0 : World) (R : Value → World → Prop) : Prop :=
  ∃ (a1 : Addr) (w1 : World),
  Sem.run Pr (Instr.box 68 (.agg #[(.int .u8 x1_Kind), (.string x1_Name), (.string x1_To), (.slice x1_B.a x1_B.len x1_B.cap), (.int .i64 x1_N), (.int .i64 x1_W_Names), (.slice x1_W_Bytes.a x1_W_Bytes.len x1_W_Bytes.cap)])) w0 = .ok (.pointer (some a1)) w1 ∧
  ∃ (n1 : Int),
  At Pr w1 (loadVar 5 (Addr.add a1 0)) (.int .u8 n1) ∧
  (13 : Int) ≠ 0 ∧
  brc ((Int.tmod n1 13) == (0 : Int))
    (∃ (str1 : ByteArray),
      At Pr w1 (loadVar 9 (Addr.add a1 1)) (.string str1) ∧
      Calls Pr 96 #[(.pointer x0), (.string str1)] w1 fun e1 w2 =>
        ∃ (n2 : Int),
        e1 = .returned (.int .i64 n2) ∧
        R (.int .i64 n2) w2)
    (brc ((Int.tmod n1 13) == (4 : Int))
        (∃ (str2 : ByteArray),
          At Pr w1 (loadVar 9 (Addr.add a1 1)) (.string str2) ∧
          Calls Pr 64 #[(.pointer x0), (.string str2)] w1 fun e2 w3 =>
            ∃ (s1 : SV) (n3 : Int),
            e2 = .returned (.tuple #[(.slice s1.a s1.len s1.cap), (.int .i64 n3)]) ∧
            R (.int .i64 n3) w3)
        (brc ((Int.tmod n1 13) == (5 : Int))
            (∃ (str3 : ByteArray),
              At Pr w1 (loadVar 9 (Addr.add a1 1)) (.string str3) ∧
              Calls Pr 97 #[(.pointer x0), (.string str3)] w1 fun e3 w4 =>
                ∃ (n4 : Int),
                e3 = .returned (.int .i64 n4) ∧
                R (.int .i64 n4) w4)
            (brc ((Int.tmod n1 13) == (6 : Int))
                (∃ (str4 : ByteArray),
                  At Pr w1 (loadVar 9 (Addr.add a1 1)) (.string str4) ∧
                  ∃ (str5 : ByteArray),
                  At Pr w1 (loadVar 9 (Addr.add a1 2)) (.string str5) ∧
                  Calls Pr 98 #[(.pointer x0), (.string str4), (.string str5)] w1 fun e4 w5 =>
                    ∃ (n5 : Int),
                    e4 = .returned (.int .i64 n5) ∧
                    R (.int .i64 n5) w5)
                (brc ((Int.tmod n1 13) == (7 : Int))
                    (∃ (str6 : ByteArray),
                      At Pr w1 (loadVar 9 (Addr.add a1 1)) (.string str6) ∧
                      Calls Pr 99 #[(.pointer x0), (.string str6)] w1 fun e5 w6 =>
                        ∃ (n6 : Int),
                        e5 = .returned (.int .i64 n6) ∧
                        R (.int .i64 n6) w6)
                    (brc ((Int.tmod n1 13) == (8 : Int))
                        (Calls Pr 100 #[(.pointer x0)] w1 fun e6 w7 =>
                            ∃ (n7 : Int),
                            e6 = .returned (.int .i64 n7) ∧
                            R (.int .i64 n7) w7)
                        (brc ((Int.tmod n1 13) == (9 : Int))
                            (Calls Pr 101 #[(.pointer x0)] w1 fun e7 w8 =>
                                ∃ (s2 : SV) (n8 : Int),
                                e7 = .returned (.tuple #[(.slice s2.a s2.len s2.cap), (.int .i64 n8)]) ∧
                                R (.int .i64 n8) w8)
                            (brc ((Int.tmod n1 13) == (10 : Int))
                                (∃ (n9 : Int),
                                  At Pr w1 (loadVar 3 (Addr.add a1 4)) (.int .i64 n9) ∧
                                  Calls Pr 59 #[(.pointer x0), (.int .i64 n9)] w1 fun e8 w9 =>
                                    ∃ (n10 : Int),
                                    e8 = .returned (.int .i64 n10) ∧
                                    R (.int .i64 n10) w9)
                                (brc ((Int.tmod n1 13) == (11 : Int))
                                    (∃ (n11 : Int) (s3 : SV),
                                      At Pr w1 (loadVar 63 (Addr.add a1 5)) (.agg #[(.int .i64 n11), (.slice s3.a s3.len s3.cap)]) ∧
                                      Calls Pr 46 #[(.pointer x0), (.agg #[(.int .i64 n11), (.slice s3.a s3.len s3.cap)])] w1 fun e9 w10 =>
                                        ∃ (n12 : Int),
                                        e9 = .returned (.int .i64 n12) ∧
                                        R (.int .i64 n12) w10)
                                    (brc ((Int.tmod n1 13) == (12 : Int))
                                        (∃ (n13 : Int),
                                          At Pr w1 (loadVar 3 (Addr.add a1 4)) (.int .i64 n13) ∧
                                          Calls Pr 102 #[(.pointer x0), (.int .i64 n13)] w1 fun e10 w11 =>
                                            ∃ (n14 : Int),
                                            e10 = .returned (.int .i64 n14) ∧
                                            R (.int .i64 n14) w11)
                                        (∃ (str7 : ByteArray),
                                          At Pr w1 (loadVar 9 (Addr.add a1 1)) (.string str7) ∧
                                          ∃ (s4 : SV),
                                          At Pr w1 (loadVar 26 (Addr.add a1 3)) (.slice s4.a s4.len s4.cap) ∧
                                          Calls Pr 103 #[(.pointer x0), (.string str7), (.slice s4.a s4.len s4.cap)] w1 fun e11 w12 =>
                                            ∃ (n15 : Int),
                                            e11 = .returned (.int .i64 n15) ∧
                                            R (.int .i64 n15) w12))))))))))

theorem call39 {x0 : Option Addr} {x1_Kind : Int} {x1_Name : ByteArray} {x1_To : ByteArray} {x1_B : SV} {x1_N : Int} {x1_W_Names : Int} {x1_W_Bytes : SV} {w0 : World} {R : Ending → World → Prop} (h : ir39 x0 x1_Kind x1_Name x1_To x1_B x1_N x1_W_Names x1_W_Bytes w0 fun v w => R (.returned v) w) : Calls Pr 39 #[.pointer x0, .agg #[(.int .u8 x1_Kind), (.string x1_Name), (.string x1_To), (.slice x1_B.a x1_B.len x1_B.cap), (.int .i64 x1_N), (.int .i64 x1_W_Names), (.slice x1_W_Bytes.a x1_W_Bytes.len x1_W_Bytes.cap)]] w0 R := by
  refine calls_of_vc (ann := []) (E := []) (args := [.pointer x0, .agg #[(.int .u8 x1_Kind), (.string x1_Name), (.string x1_To), (.slice x1_B.a x1_B.len x1_B.cap), (.int .i64 x1_N), (.int .i64 x1_W_Names), (.slice x1_W_Bytes.a x1_W_Bytes.len x1_W_Bytes.cap)]]) follows Try.func39 rfl (by kernel_rfl) ?_
  apply by_eq h
  kernel_rfl

/-- creel/creellaw13.few -/
def ir61 (x0 : SV) (w0 : World) (R : Value → World → Prop) : Prop :=
  LoopT (σ := Int × SV × Unit) (fun σ1 w1 K1 =>
    ∀ _ : Env,
    brc (decide (σ1.1 < ((x0.len : Nat) : Int)))
      (((0 : Int) ≤ σ1.1 ∧ σ1.1 < ((x0.len : Nat) : Int)) ∧
        optK x0.a fun a1 =>
          ∃ (s1 : SV),
          At Pr w1 (loadVar 26 (Addr.add a1 (Int.toNat σ1.1 * 1))) (.slice s1.a s1.len s1.cap) ∧
          brc (decide (σ1.1 < (60 : Int)))
            (brc (decide (((s1.len : Nat) : Int) ≤ (80 : Int)))
                (∃ (s2 : SV) (w2 : World),
                  Sem.run Pr (Instr.buildSlice 22 1 #[(0, (.slice s1.a s1.len s1.cap))]) w1 = .ok (.slice s2.a s2.len s2.cap) w2 ∧
                  ∃ (s3 : SV) (w3 : World),
                  Sem.run Pr (Builtin.append_ #[22, 22] 22 #[(.slice σ1.2.1.a σ1.2.1.len σ1.2.1.cap), (.slice s2.a s2.len s2.cap)]) w2 = .ok (.slice s3.a s3.len s3.cap) w3 ∧
                  K1 (IntKind.wrap .i64 (σ1.1 + 1), s3, ()) w3)
                (K1 (IntKind.wrap .i64 (σ1.1 + 1), σ1.2.1, ()) w1))
            (K1 (IntKind.wrap .i64 (σ1.1 + 1), σ1.2.1, ()) w1))
      (R (.slice σ1.2.1.a σ1.2.1.len σ1.2.1.cap) w1)) (0, SV.mk none 0 0, ()) w0

theorem call61 {x0 : SV} {w0 : World} {R : Ending → World → Prop} (h : ir61 x0 w0 fun v w => R (.returned v) w) : Calls Pr 61 #[.slice x0.a x0.len x0.cap] w0 R := by
  refine calls_of_vc (ann := [(3, [(8, .int .i64), (3, .slice)])]) (E := []) (args := [.slice x0.a x0.len x0.cap]) follows Try.func61 rfl (by kernel_rfl) ?_
  apply by_eq h
  kernel_rfl

/-- (*creel/creelref13.Writer).Add -/
def ir62 (x0 : Option Addr) (x1 : SV) (w0 : World) (R : Value → World → Prop) : Prop :=
  brc (decide (((x1.len : Nat) : Int) > (64 : Int)))
    (R (.int .i64 3) w0)
    (∃ (S1 : World → Prop),
      S1 (World.drew w0) ∧
      optK x0 fun a1 =>
        ∃ (s1 : SV),
        AtS Pr S1 (loadVar 22 (Addr.add a1 1)) (.slice s1.a s1.len s1.cap) ∧
        brc (decide (((s1.len : Nat) : Int) > (0 : Int)))
          (optK x0 fun a2 =>
              ∃ (s2 : SV),
              AtS Pr S1 (loadVar 22 (Addr.add a2 1)) (.slice s2.a s2.len s2.cap) ∧
              optK x0 fun a3 =>
                ∃ (s3 : SV),
                AtS Pr S1 (loadVar 22 (Addr.add a3 1)) (.slice s3.a s3.len s3.cap) ∧
                ((0 : Int) ≤ (IntKind.wrap .i64 (((s3.len : Nat) : Int) - 1)) ∧ (IntKind.wrap .i64 (((s3.len : Nat) : Int) - 1)) < ((s2.len : Nat) : Int)) ∧
                optK s2.a fun a4 =>
                  ∃ (s4 : SV),
                  AtS Pr S1 (loadVar 26 (Addr.add a4 (Int.toNat (IntKind.wrap .i64 (((s3.len : Nat) : Int) - 1)) * 1))) (.slice s4.a s4.len s4.cap) ∧
                  ∃ (str1 : ByteArray),
                  AtS Pr S1 (convert 26 9 (.slice s4.a s4.len s4.cap)) (.string str1) ∧
                  ∃ (str2 : ByteArray),
                  AtS Pr S1 (convert 26 9 (.slice x1.a x1.len x1.cap)) (.string str2) ∧
                  brc (!(Op.bytesLess (ByteArray.toList str1) (ByteArray.toList str2)))
                    (R (.int .i64 130) (World.drew w0))
                    (Calls Pr 70 #[(.slice none 0 0), (.slice x1.a x1.len x1.cap)] (World.drew w0) fun e1 w1 =>
                        ∃ (s5 : SV) (n1 : Int),
                        e1 = .returned (.tuple #[(.slice s5.a s5.len s5.cap), (.int .i64 n1)]) ∧
                        optK x0 fun a5 =>
                          ∃ (p1 : Option Addr),
                          At Pr w1 (loadVar 64 (Addr.add a5 0)) (.pointer p1) ∧
                          Calls Pr 103 #[(.pointer p1), (.string (⟨#[116, 109, 112]⟩ : ByteArray)), (.slice s5.a s5.len s5.cap)] w1 fun e2 w2 =>
                            ∃ (n2 : Int),
                            e2 = .returned (.int .i64 n2) ∧
                            brc (n2 == (0 : Int))
                              (∃ (S2 : World → Prop),
                                S2 (World.drew w2) ∧
                                optK x0 fun a6 =>
                                  ∃ (s6 : SV),
                                  AtS Pr S2 (loadVar 22 (Addr.add a6 1)) (.slice s6.a s6.len s6.cap) ∧
                                  ∃ (s7 : SV) (w3 : World),
                                  Sem.run Pr (Instr.buildSlice 26 0 #[]) (World.drew w2) = .ok (.slice s7.a s7.len s7.cap) w3 ∧
                                  ∃ (S3 : World → Prop),
                                  (∀ w, S3 w → S2 w) ∧
                                  S3 w3 ∧
                                  ∃ (s8 : SV) (w4 : World),
                                  Sem.run Pr (Builtin.append_ #[26, 26] 26 #[(.slice s7.a s7.len s7.cap), (.slice x1.a x1.len x1.cap)]) w3 = .ok (.slice s8.a s8.len s8.cap) w4 ∧
                                  ∃ (S4 : World → Prop),
                                  (∀ w, S4 w → S3 w) ∧
                                  S4 w4 ∧
                                  ∃ (s9 : SV) (w5 : World),
                                  Sem.run Pr (Instr.buildSlice 22 1 #[(0, (.slice s8.a s8.len s8.cap))]) w4 = .ok (.slice s9.a s9.len s9.cap) w5 ∧
                                  ∃ (S5 : World → Prop),
                                  (∀ w, S5 w → S4 w) ∧
                                  S5 w5 ∧
                                  ∃ (s10 : SV) (w6 : World),
                                  Sem.run Pr (Builtin.append_ #[22, 22] 22 #[(.slice s6.a s6.len s6.cap), (.slice s9.a s9.len s9.cap)]) w5 = .ok (.slice s10.a s10.len s10.cap) w6 ∧
                                  ∃ (S6 : World → Prop),
                                  S6 w6 ∧
                                  optK x0 fun a7 =>
                                    ∃ (w7 : World),
                                    Sem.run Pr (Instr.storeAt 22 (.pointer (some (Addr.add a7 1))) (.slice s10.a s10.len s10.cap)) w6 = .ok () w7 ∧
                                    ∃ (S7 : World → Prop),
                                    S7 w7 ∧
                                    R (.int .i64 n2) w7)
                              (R (.int .i64 n2) w2)))
          (Calls Pr 70 #[(.slice none 0 0), (.slice x1.a x1.len x1.cap)] (World.drew w0) fun e3 w8 =>
              ∃ (s11 : SV) (n3 : Int),
              e3 = .returned (.tuple #[(.slice s11.a s11.len s11.cap), (.int .i64 n3)]) ∧
              optK x0 fun a8 =>
                ∃ (p2 : Option Addr),
                At Pr w8 (loadVar 64 (Addr.add a8 0)) (.pointer p2) ∧
                Calls Pr 103 #[(.pointer p2), (.string (⟨#[116, 109, 112]⟩ : ByteArray)), (.slice s11.a s11.len s11.cap)] w8 fun e4 w9 =>
                  ∃ (n4 : Int),
                  e4 = .returned (.int .i64 n4) ∧
                  brc (n4 == (0 : Int))
                    (∃ (S8 : World → Prop),
                      S8 (World.drew w9) ∧
                      optK x0 fun a9 =>
                        ∃ (s12 : SV),
                        AtS Pr S8 (loadVar 22 (Addr.add a9 1)) (.slice s12.a s12.len s12.cap) ∧
                        ∃ (s13 : SV) (w10 : World),
                        Sem.run Pr (Instr.buildSlice 26 0 #[]) (World.drew w9) = .ok (.slice s13.a s13.len s13.cap) w10 ∧
                        ∃ (S9 : World → Prop),
                        (∀ w, S9 w → S8 w) ∧
                        S9 w10 ∧
                        ∃ (s14 : SV) (w11 : World),
                        Sem.run Pr (Builtin.append_ #[26, 26] 26 #[(.slice s13.a s13.len s13.cap), (.slice x1.a x1.len x1.cap)]) w10 = .ok (.slice s14.a s14.len s14.cap) w11 ∧
                        ∃ (S10 : World → Prop),
                        (∀ w, S10 w → S9 w) ∧
                        S10 w11 ∧
                        ∃ (s15 : SV) (w12 : World),
                        Sem.run Pr (Instr.buildSlice 22 1 #[(0, (.slice s14.a s14.len s14.cap))]) w11 = .ok (.slice s15.a s15.len s15.cap) w12 ∧
                        ∃ (S11 : World → Prop),
                        (∀ w, S11 w → S10 w) ∧
                        S11 w12 ∧
                        ∃ (s16 : SV) (w13 : World),
                        Sem.run Pr (Builtin.append_ #[22, 22] 22 #[(.slice s12.a s12.len s12.cap), (.slice s15.a s15.len s15.cap)]) w12 = .ok (.slice s16.a s16.len s16.cap) w13 ∧
                        ∃ (S12 : World → Prop),
                        S12 w13 ∧
                        optK x0 fun a10 =>
                          ∃ (w14 : World),
                          Sem.run Pr (Instr.storeAt 22 (.pointer (some (Addr.add a10 1))) (.slice s16.a s16.len s16.cap)) w13 = .ok () w14 ∧
                          ∃ (S13 : World → Prop),
                          S13 w14 ∧
                          R (.int .i64 n4) w14)
                    (R (.int .i64 n4) w9)))

theorem call62 {x0 : Option Addr} {x1 : SV} {w0 : World} {R : Ending → World → Prop} (h : ir62 x0 x1 w0 fun v w => R (.returned v) w) : Calls Pr 62 #[.pointer x0, .slice x1.a x1.len x1.cap] w0 R := by
  refine calls_of_vc (ann := []) (E := []) (args := [.pointer x0, .slice x1.a x1.len x1.cap]) follows Try.func62 rfl (by kernel_rfl) ?_
  apply by_eq h
  kernel_rfl

/-- creel/creellaw13.put -/
def ir65 (x0 : Option Addr) (x1 : SV) (w0 : World) (R : Value → World → Prop) : Prop :=
  Calls Pr 27 #[(.pointer x0)] w0 fun e1 w1 =>
    ∃ (p1 : Option Addr) (n1 : Int),
    e1 = .returned (.tuple #[(.pointer p1), (.int .i64 n1)]) ∧
    brc (Option.isNone p1)
      (R (.bool false) w1)
      (brc (n1 != (0 : Int))
          (R (.bool false) w1)
          (LoopT (σ := Int × Unit) (fun σ1 w2 K1 =>
              ∀ _ : Env,
              brc (decide (σ1.1 < ((x1.len : Nat) : Int)))
                (((0 : Int) ≤ σ1.1 ∧ σ1.1 < ((x1.len : Nat) : Int)) ∧
                  optK x1.a fun a1 =>
                    ∃ (s1 : SV),
                    At Pr w2 (loadVar 26 (Addr.add a1 (Int.toNat σ1.1 * 1))) (.slice s1.a s1.len s1.cap) ∧
                    Calls Pr 22 #[(.pointer p1), (.slice s1.a s1.len s1.cap)] w2 fun e2 w3 =>
                      ∃ (n2 : Int),
                      e2 = .returned (.int .i64 n2) ∧
                      brc (n2 != (0 : Int))
                        (R (.bool false) w3)
                        (K1 (IntKind.wrap .i64 (σ1.1 + 1), ()) w3))
                (Calls Pr 23 #[(.pointer p1), (.string (⟨#[120]⟩ : ByteArray))] w2 fun e3 w4 =>
                    ∃ (n3 : Int),
                    e3 = .returned (.int .i64 n3) ∧
                    R (.bool (n3 == (0 : Int))) w4)) (0, ()) w1))

theorem call65 {x0 : Option Addr} {x1 : SV} {w0 : World} {R : Ending → World → Prop} (h : ir65 x0 x1 w0 fun v w => R (.returned v) w) : Calls Pr 65 #[.pointer x0, .slice x1.a x1.len x1.cap] w0 R := by
  refine calls_of_vc (ann := [(5, [(22, .int .i64)])]) (E := []) (args := [.pointer x0, .slice x1.a x1.len x1.cap]) follows Try.func65 rfl (by kernel_rfl) ?_
  apply by_eq h
  kernel_rfl

/-- creel/frame.Take -/
def ir82 (x0 : SV) (w0 : World) (R : Value → World → Prop) : Prop :=
  Calls Pr 135 #[(.slice x0.a x0.len x0.cap)] w0 fun e1 w1 =>
    ∃ (s1 : SV) (n1 : Int) (n2 : Int),
    e1 = .returned (.tuple #[(.slice s1.a s1.len s1.cap), (.int .i64 n1), (.int .i64 n2)]) ∧
    brc (n2 != (0 : Int))
      (R (.tuple #[(.slice none 0 0), (.slice none 0 0), (.int .i64 n2)]) w1)
      (∃ (S1 : World → Prop),
        S1 (World.drew w1) ∧
        ((0 : Int) ≤ n1 ∧ n1 ≤ ((x0.len : Nat) : Int)) ∧
        Calls Pr 88 #[(.slice s1.a s1.len s1.cap)] (World.drew w1) fun e2 w2 =>
          ∃ (s2 : SV),
          e2 = .returned (.slice s2.a s2.len s2.cap) ∧
          ∃ (S2 : World → Prop),
          S2 w2 ∧
          Calls Pr 88 #[(.slice (cutAt x0.a (Int.toNat n1) x0.cap 1) (x0.len - (Int.toNat n1)) (x0.cap - (Int.toNat n1)))] w2 fun e3 w3 =>
            ∃ (s3 : SV),
            e3 = .returned (.slice s3.a s3.len s3.cap) ∧
            ∃ (S3 : World → Prop),
            S3 w3 ∧
            R (.tuple #[(.slice s2.a s2.len s2.cap), (.slice s3.a s3.len s3.cap), (.int .i64 0)]) w3)

theorem call82 {x0 : SV} {w0 : World} {R : Ending → World → Prop} (h : ir82 x0 w0 fun v w => R (.returned v) w) : Calls Pr 82 #[.slice x0.a x0.len x0.cap] w0 R := by
  refine calls_of_vc (ann := []) (E := []) (args := [.slice x0.a x0.len x0.cap]) follows Try.func82 rfl (by kernel_rfl) ?_
  apply by_eq h
  kernel_rfl

/-- creel/run.All$1 -/
def ir89 (x0 : FV) (c0 : Addr) (w0 : World) (R : Value → World → Prop) : Prop :=
  ∃ (s1 : SV),
  At Pr w0 (loadVar 26 c0) (.slice s1.a s1.len s1.cap) ∧
  Calls Pr 88 #[(.slice s1.a s1.len s1.cap)] w0 fun e1 w1 =>
    ∃ (s2 : SV),
    e1 = .returned (.slice s2.a s2.len s2.cap) ∧
    ∃ (a1 : Addr) (w2 : World),
    Sem.run Pr (Instr.box 130 (.agg #[(.slice s2.a s2.len s2.cap), (.slice none 0 0), (.bool false), (.bool false)])) w1 = .ok (.pointer (some a1)) w2 ∧
    Calls Pr 21 #[(.pointer (some a1))] w2 fun e2 w3 =>
      ∃ (s3 : SV) (b1 : Bool) (n1 : Int),
      e2 = .returned (.tuple #[(.agg #[(.slice s3.a s3.len s3.cap), (.bool b1)]), (.int .i64 n1)]) ∧
      ∃ (a2 : Addr) (w4 : World),
      Sem.run Pr (Instr.alloc 34 true (.tuple #[])) w3 = .ok (.pointer (some a2)) w4 ∧
      ∃ (w5 : World),
      Sem.run Pr (Instr.storeAt 34 (.pointer (some a2)) (.agg #[(.slice s3.a s3.len s3.cap), (.bool b1)])) w4 = .ok () w5 ∧
      LoopT (σ := Addr × Int × Unit) (fun σ1 w6 K1 =>
        ∀ _ : Env,
        ∃ (b2 : Bool),
        At Pr w6 (loadVar 4 (Addr.add σ1.1 1)) (.bool b2) ∧
        brc (b2)
          (∃ (s4 : SV),
            At Pr w6 (loadVar 26 (Addr.add σ1.1 0)) (.slice s4.a s4.len s4.cap) ∧
            callV Pr (.func x0.f x0.a x0.b) [(.slice s4.a s4.len s4.cap), (.int .i64 σ1.2.1)] w6 fun e3 w7 =>
              ∃ (b3 : Bool),
              e3 = .returned (.bool b3) ∧
              brc (!b3)
                (R (.tuple #[]) w7)
                (brc (σ1.2.1 != (0 : Int))
                    (R (.tuple #[]) w7)
                    (∃ (s5 : SV) (b4 : Bool),
                      At Pr w7 (loadVar 34 σ1.1) (.agg #[(.slice s5.a s5.len s5.cap), (.bool b4)]) ∧
                      ∃ (a3 : Addr) (w8 : World),
                      Sem.run Pr (Instr.alloc 34 true (.tuple #[])) w7 = .ok (.pointer (some a3)) w8 ∧
                      ∃ (w9 : World),
                      Sem.run Pr (Instr.storeAt 34 (.pointer (some a3)) (.agg #[(.slice s5.a s5.len s5.cap), (.bool b4)])) w8 = .ok () w9 ∧
                      Calls Pr 21 #[(.pointer (some a1))] w9 fun e4 w10 =>
                        ∃ (s6 : SV) (b5 : Bool) (n2 : Int),
                        e4 = .returned (.tuple #[(.agg #[(.slice s6.a s6.len s6.cap), (.bool b5)]), (.int .i64 n2)]) ∧
                        ∃ (w11 : World),
                        Sem.run Pr (Instr.storeAt 34 (.pointer (some a3)) (.agg #[(.slice s6.a s6.len s6.cap), (.bool b5)])) w10 = .ok () w11 ∧
                        K1 (a3, n2, ()) w11)))
          (brc (σ1.2.1 != (0 : Int))
              (∃ (s7 : SV),
                At Pr w6 (loadVar 26 (Addr.add σ1.1 0)) (.slice s7.a s7.len s7.cap) ∧
                callV Pr (.func x0.f x0.a x0.b) [(.slice s7.a s7.len s7.cap), (.int .i64 σ1.2.1)] w6 fun e5 w12 =>
                  ∃ (b6 : Bool),
                  e5 = .returned (.bool b6) ∧
                  brc (!b6)
                    (R (.tuple #[]) w12)
                    (brc (σ1.2.1 != (0 : Int))
                        (R (.tuple #[]) w12)
                        (∃ (s8 : SV) (b7 : Bool),
                          At Pr w12 (loadVar 34 σ1.1) (.agg #[(.slice s8.a s8.len s8.cap), (.bool b7)]) ∧
                          ∃ (a4 : Addr) (w13 : World),
                          Sem.run Pr (Instr.alloc 34 true (.tuple #[])) w12 = .ok (.pointer (some a4)) w13 ∧
                          ∃ (w14 : World),
                          Sem.run Pr (Instr.storeAt 34 (.pointer (some a4)) (.agg #[(.slice s8.a s8.len s8.cap), (.bool b7)])) w13 = .ok () w14 ∧
                          Calls Pr 21 #[(.pointer (some a1))] w14 fun e6 w15 =>
                            ∃ (s9 : SV) (b8 : Bool) (n3 : Int),
                            e6 = .returned (.tuple #[(.agg #[(.slice s9.a s9.len s9.cap), (.bool b8)]), (.int .i64 n3)]) ∧
                            ∃ (w16 : World),
                            Sem.run Pr (Instr.storeAt 34 (.pointer (some a4)) (.agg #[(.slice s9.a s9.len s9.cap), (.bool b8)])) w15 = .ok () w16 ∧
                            K1 (a4, n3, ()) w16)))
              (R (.tuple #[]) w6))) (a2, n1, ()) w5

theorem call89 {x0 : FV} {c0 : Addr} {w0 : World} {R : Ending → World → Prop} (h : ir89 x0 c0 w0 fun v w => R (.returned v) w) : Calls Pr 89 #[.func x0.f x0.a x0.b, .pointer (some c0)] w0 R := by
  refine calls_of_vc (ann := [(2, [(4, .adr), (5, .int .i64)])]) (E := []) (args := [.func x0.f x0.a x0.b, .pointer (some c0)]) follows Try.func89 rfl (by kernel_rfl) ?_
  apply by_eq h
  kernel_rfl

/-- creel/creelref03.All -/
def ir90 (x0 : SV) (w0 : World) (R : Value → World → Prop) : Prop :=
  LoopT (σ := SV × SV × Int × Unit) (fun σ1 w1 K1 =>
    ∀ _ : Env,
    Calls Pr 139 #[(.slice σ1.1.a σ1.1.len σ1.1.cap)] w1 fun e1 w2 =>
      ∃ (s1 : SV) (s2 : SV) (n1 : Int),
      e1 = .returned (.tuple #[(.slice s1.a s1.len s1.cap), (.slice s2.a s2.len s2.cap), (.int .i64 n1)]) ∧
      brc (n1 != (0 : Int))
        (R (.tuple #[(.slice σ1.2.1.a σ1.2.1.len σ1.2.1.cap), (.int .i64 σ1.2.2.1)]) w2)
        (∃ (s3 : SV) (w3 : World),
          Sem.run Pr (Instr.buildSlice 22 1 #[(0, (.slice s1.a s1.len s1.cap))]) w2 = .ok (.slice s3.a s3.len s3.cap) w3 ∧
          ∃ (s4 : SV) (w4 : World),
          Sem.run Pr (Builtin.append_ #[22, 22] 22 #[(.slice σ1.2.1.a σ1.2.1.len σ1.2.1.cap), (.slice s3.a s3.len s3.cap)]) w3 = .ok (.slice s4.a s4.len s4.cap) w4 ∧
          K1 (s2, s4, IntKind.wrap .i64 ((IntKind.wrap .i64 (σ1.2.2.1 + ((s1.len : Nat) : Int))) + 8), ()) w4)) (x0, SV.mk none 0 0, 0, ()) w0

theorem call90 {x0 : SV} {w0 : World} {R : Ending → World → Prop} (h : ir90 x0 w0 fun v w => R (.returned v) w) : Calls Pr 90 #[.slice x0.a x0.len x0.cap] w0 R := by
  refine calls_of_vc (ann := [(3, [(0, .slice), (4, .slice), (5, .int .i64)])]) (E := []) (args := [.slice x0.a x0.len x0.cap]) follows Try.func90 rfl (by kernel_rfl) ?_
  apply by_eq h
  kernel_rfl

/-- creel/frame.All -/
def ir127 (x0 : SV) (w0 : World) (R : Value → World → Prop) : Prop :=
  LoopT (σ := Int × SV × Unit) (fun σ1 w1 K1 =>
    ∀ _ : Env,
    ((0 : Int) ≤ σ1.1 ∧ σ1.1 ≤ ((x0.len : Nat) : Int)) ∧
    Calls Pr 135 #[(.slice (cutAt x0.a (Int.toNat σ1.1) x0.cap 1) (x0.len - (Int.toNat σ1.1)) (x0.cap - (Int.toNat σ1.1)))] w1 fun e1 w2 =>
      ∃ (s1 : SV) (n1 : Int) (n2 : Int),
      e1 = .returned (.tuple #[(.slice s1.a s1.len s1.cap), (.int .i64 n1), (.int .i64 n2)]) ∧
      brc (n2 != (0 : Int))
        (R (.tuple #[(.slice σ1.2.1.a σ1.2.1.len σ1.2.1.cap), (.int .i64 σ1.1)]) w2)
        (Calls Pr 88 #[(.slice s1.a s1.len s1.cap)] w2 fun e2 w3 =>
            ∃ (s2 : SV),
            e2 = .returned (.slice s2.a s2.len s2.cap) ∧
            ∃ (s3 : SV) (w4 : World),
            Sem.run Pr (Instr.buildSlice 22 1 #[(0, (.slice s2.a s2.len s2.cap))]) w3 = .ok (.slice s3.a s3.len s3.cap) w4 ∧
            ∃ (s4 : SV) (w5 : World),
            Sem.run Pr (Builtin.append_ #[22, 22] 22 #[(.slice σ1.2.1.a σ1.2.1.len σ1.2.1.cap), (.slice s3.a s3.len s3.cap)]) w4 = .ok (.slice s4.a s4.len s4.cap) w5 ∧
            K1 (IntKind.wrap .i64 (σ1.1 + n1), s4, ()) w5)) (0, SV.mk none 0 0, ()) w0

theorem call127 {x0 : SV} {w0 : World} {R : Ending → World → Prop} (h : ir127 x0 w0 fun v w => R (.returned v) w) : Calls Pr 127 #[.slice x0.a x0.len x0.cap] w0 R := by
  refine calls_of_vc (ann := [(3, [(5, .int .i64), (4, .slice)])]) (E := []) (args := [.slice x0.a x0.len x0.cap]) follows Try.func127 rfl (by kernel_rfl) ?_
  apply by_eq h
  kernel_rfl

/-- creel/frame.take -/
def ir135 (x0 : SV) (w0 : World) (R : Value → World → Prop) : Prop :=
  Calls Pr 153 #[(.slice x0.a x0.len x0.cap)] w0 fun e1 w1 =>
    ∃ (n1 : Int) (n2 : Int),
    e1 = .returned (.tuple #[(.int .i64 n1), (.int .i64 n2)]) ∧
    brc (n2 != (0 : Int))
      (R (.tuple #[(.slice none 0 0), (.int .i64 0), (.int .i64 n2)]) w1)
      (((0 : Int) ≤ (IntKind.wrap .i64 (n1 + 4)) ∧ (IntKind.wrap .i64 (n1 + 4)) ≤ ((x0.cap : Nat) : Int)) ∧
        Calls Pr 154 #[(.slice (cutAt x0.a 0 x0.cap 1) ((Int.toNat (IntKind.wrap .i64 (n1 + 4))) - 0) (x0.cap - 0))] w1 fun e2 w2 =>
          ∃ (b1 : Bool),
          e2 = .returned (.bool b1) ∧
          brc (!b1)
            (R (.tuple #[(.slice none 0 0), (.int .i64 0), (.int .i64 6)]) w2)
            (((0 : Int) ≤ n1 ∧ n1 ≤ ((x0.cap : Nat) : Int)) ∧
              ((0 : Int) ≤ 4 ∧ 4 ≤ ((Int.toNat n1 : Nat) : Int)) ∧
              R (.tuple #[(.slice (cutAt x0.a (Int.toNat 4) x0.cap 1) ((Int.toNat n1) - (Int.toNat 4)) (x0.cap - (Int.toNat 4))), (.int .i64 (IntKind.wrap .i64 (n1 + 4))), (.int .i64 0)]) w2))

theorem call135 {x0 : SV} {w0 : World} {R : Ending → World → Prop} (h : ir135 x0 w0 fun v w => R (.returned v) w) : Calls Pr 135 #[.slice x0.a x0.len x0.cap] w0 R := by
  refine calls_of_vc (ann := []) (E := []) (args := [.slice x0.a x0.len x0.cap]) follows Try.func135 rfl (by kernel_rfl) ?_
  apply by_eq h
  kernel_rfl

/-- creel/creelref03.Take -/
def ir139 (x0 : SV) (w0 : World) (R : Value → World → Prop) : Prop :=
  Calls Pr 157 #[(.slice x0.a x0.len x0.cap), (.int .i64 4)] w0 fun e1 w1 =>
    ∃ (n1 : Int) (s1 : SV) (n2 : Int),
    e1 = .returned (.tuple #[(.int .u64 n1), (.slice s1.a s1.len s1.cap), (.int .i64 n2)]) ∧
    brc (n2 != (0 : Int))
      (R (.tuple #[(.slice none 0 0), (.slice none 0 0), (.int .i64 5)]) w1)
      (brc (decide (n1 > (4096 : Int)))
          (R (.tuple #[(.slice none 0 0), (.slice none 0 0), (.int .i64 6)]) w1)
          (brc (decide (((x0.len : Nat) : Int) < (IntKind.wrap .i64 ((IntKind.wrap .i64 ((IntKind.wrap .i64 n1) + 4)) + 4))))
              (R (.tuple #[(.slice none 0 0), (.slice none 0 0), (.int .i64 5)]) w1)
              (((0 : Int) ≤ (IntKind.wrap .i64 ((IntKind.wrap .i64 ((IntKind.wrap .i64 n1) + 4)) + 4)) ∧ (IntKind.wrap .i64 ((IntKind.wrap .i64 ((IntKind.wrap .i64 n1) + 4)) + 4)) ≤ ((x0.cap : Nat) : Int)) ∧
                Calls Pr 158 #[(.slice (cutAt x0.a 0 x0.cap 1) ((Int.toNat (IntKind.wrap .i64 ((IntKind.wrap .i64 ((IntKind.wrap .i64 n1) + 4)) + 4))) - 0) (x0.cap - 0))] w1 fun e2 w2 =>
                  ∃ (s2 : SV) (n3 : Int),
                  e2 = .returned (.tuple #[(.slice s2.a s2.len s2.cap), (.int .i64 n3)]) ∧
                  brc (n3 != (0 : Int))
                    (R (.tuple #[(.slice none 0 0), (.slice none 0 0), (.int .i64 6)]) w2)
                    (∃ (S1 : World → Prop),
                      S1 (World.drew w2) ∧
                      ((0 : Int) ≤ (IntKind.wrap .i64 ((IntKind.wrap .i64 n1) + 4)) ∧ (IntKind.wrap .i64 ((IntKind.wrap .i64 n1) + 4)) ≤ ((x0.cap : Nat) : Int)) ∧
                      ((0 : Int) ≤ 4 ∧ 4 ≤ ((Int.toNat (IntKind.wrap .i64 ((IntKind.wrap .i64 n1) + 4)) : Nat) : Int)) ∧
                      ((0 : Int) ≤ (IntKind.wrap .i64 ((IntKind.wrap .i64 ((IntKind.wrap .i64 n1) + 4)) + 4)) ∧ (IntKind.wrap .i64 ((IntKind.wrap .i64 ((IntKind.wrap .i64 n1) + 4)) + 4)) ≤ ((x0.len : Nat) : Int)) ∧
                      (∃ (s3 : SV) (w3 : World),
                      Sem.run Pr (Instr.buildSlice 26 0 #[]) (World.drew w2) = .ok (.slice s3.a s3.len s3.cap) w3 ∧
                      ∃ (S2 : World → Prop),
                      S2 w3 ∧
                      (∃ (s4 : SV) (w4 : World),
                      Sem.run Pr (Builtin.append_ #[26, 26] 26 #[(.slice s3.a s3.len s3.cap), (.slice (cutAt x0.a (Int.toNat 4) x0.cap 1) ((Int.toNat (IntKind.wrap .i64 ((IntKind.wrap .i64 n1) + 4))) - (Int.toNat 4)) (x0.cap - (Int.toNat 4)))]) w3 = .ok (.slice s4.a s4.len s4.cap) w4 ∧
                      ∃ (S3 : World → Prop),
                      S3 w4 ∧
                      ∃ (s5 : SV) (w5 : World),
                      Sem.run Pr (Instr.buildSlice 26 0 #[]) w4 = .ok (.slice s5.a s5.len s5.cap) w5 ∧
                      ∃ (S4 : World → Prop),
                      S4 w5 ∧
                      ∃ (s6 : SV) (w6 : World),
                      Sem.run Pr (Builtin.append_ #[26, 26] 26 #[(.slice s5.a s5.len s5.cap), (.slice (cutAt x0.a (Int.toNat (IntKind.wrap .i64 ((IntKind.wrap .i64 ((IntKind.wrap .i64 n1) + 4)) + 4))) x0.cap 1) (x0.len - (Int.toNat (IntKind.wrap .i64 ((IntKind.wrap .i64 ((IntKind.wrap .i64 n1) + 4)) + 4)))) (x0.cap - (Int.toNat (IntKind.wrap .i64 ((IntKind.wrap .i64 ((IntKind.wrap .i64 n1) + 4)) + 4)))))]) w5 = .ok (.slice s6.a s6.len s6.cap) w6 ∧
                      ∃ (S5 : World → Prop),
                      S5 w6 ∧
                      R (.tuple #[(.slice s4.a s4.len s4.cap), (.slice s6.a s6.len s6.cap), (.int .i64 0)]) w6) ∧
                      ∃ (s7 : SV) (w7 : World),
                      Sem.run Pr (Instr.buildSlice 26 0 #[]) w3 = .ok (.slice s7.a s7.len s7.cap) w7 ∧
                      ∃ (S6 : World → Prop),
                      S6 w7 ∧
                      ∃ (s8 : SV) (w8 : World),
                      Sem.run Pr (Builtin.append_ #[26, 26] 26 #[(.slice s3.a s3.len s3.cap), (.slice (cutAt x0.a (Int.toNat 4) x0.cap 1) ((Int.toNat (IntKind.wrap .i64 ((IntKind.wrap .i64 n1) + 4))) - (Int.toNat 4)) (x0.cap - (Int.toNat 4)))]) w7 = .ok (.slice s8.a s8.len s8.cap) w8 ∧
                      ∃ (S7 : World → Prop),
                      S7 w8 ∧
                      ∃ (s9 : SV) (w9 : World),
                      Sem.run Pr (Builtin.append_ #[26, 26] 26 #[(.slice s7.a s7.len s7.cap), (.slice (cutAt x0.a (Int.toNat (IntKind.wrap .i64 ((IntKind.wrap .i64 ((IntKind.wrap .i64 n1) + 4)) + 4))) x0.cap 1) (x0.len - (Int.toNat (IntKind.wrap .i64 ((IntKind.wrap .i64 ((IntKind.wrap .i64 n1) + 4)) + 4)))) (x0.cap - (Int.toNat (IntKind.wrap .i64 ((IntKind.wrap .i64 ((IntKind.wrap .i64 n1) + 4)) + 4)))))]) w8 = .ok (.slice s9.a s9.len s9.cap) w9 ∧
                      ∃ (S8 : World → Prop),
                      S8 w9 ∧
                      R (.tuple #[(.slice s8.a s8.len s8.cap), (.slice s9.a s9.len s9.cap), (.int .i64 0)]) w9) ∧
                      ∃ (s10 : SV) (w10 : World),
                      Sem.run Pr (Instr.buildSlice 26 0 #[]) (World.drew w2) = .ok (.slice s10.a s10.len s10.cap) w10 ∧
                      ∃ (S9 : World → Prop),
                      S9 w10 ∧
                      ∃ (s11 : SV) (w11 : World),
                      Sem.run Pr (Instr.buildSlice 26 0 #[]) w10 = .ok (.slice s11.a s11.len s11.cap) w11 ∧
                      ∃ (S10 : World → Prop),
                      S10 w11 ∧
                      ∃ (s12 : SV) (w12 : World),
                      Sem.run Pr (Builtin.append_ #[26, 26] 26 #[(.slice s11.a s11.len s11.cap), (.slice (cutAt x0.a (Int.toNat 4) x0.cap 1) ((Int.toNat (IntKind.wrap .i64 ((IntKind.wrap .i64 n1) + 4))) - (Int.toNat 4)) (x0.cap - (Int.toNat 4)))]) w11 = .ok (.slice s12.a s12.len s12.cap) w12 ∧
                      ∃ (S11 : World → Prop),
                      S11 w12 ∧
                      ∃ (s13 : SV) (w13 : World),
                      Sem.run Pr (Builtin.append_ #[26, 26] 26 #[(.slice s10.a s10.len s10.cap), (.slice (cutAt x0.a (Int.toNat (IntKind.wrap .i64 ((IntKind.wrap .i64 ((IntKind.wrap .i64 n1) + 4)) + 4))) x0.cap 1) (x0.len - (Int.toNat (IntKind.wrap .i64 ((IntKind.wrap .i64 ((IntKind.wrap .i64 n1) + 4)) + 4)))) (x0.cap - (Int.toNat (IntKind.wrap .i64 ((IntKind.wrap .i64 ((IntKind.wrap .i64 n1) + 4)) + 4)))))]) w12 = .ok (.slice s13.a s13.len s13.cap) w13 ∧
                      ∃ (S12 : World → Prop),
                      S12 w13 ∧
                      R (.tuple #[(.slice s12.a s12.len s12.cap), (.slice s13.a s13.len s13.cap), (.int .i64 0)]) w13))))

theorem call139 {x0 : SV} {w0 : World} {R : Ending → World → Prop} (h : ir139 x0 w0 fun v w => R (.returned v) w) : Calls Pr 139 #[.slice x0.a x0.len x0.cap] w0 R := by
  refine calls_of_vc (ann := []) (E := []) (args := [.slice x0.a x0.len x0.cap]) follows Try.func139 rfl (by kernel_rfl) ?_
  apply by_eq h
  kernel_rfl

/-- slices.Chunk[[]byte,byte] -/
def ir147 (x0 : SV) (x1 : Int) (w0 : World) (R : Value → World → Prop) : Prop :=
  ∃ (a1 : Addr) (w1 : World),
  Sem.run Pr (Instr.box 26 (.slice x0.a x0.len x0.cap)) w0 = .ok (.pointer (some a1)) w1 ∧
  ∃ (a2 : Addr) (w2 : World),
  Sem.run Pr (Instr.box 3 (.int .i64 x1)) w1 = .ok (.pointer (some a2)) w2 ∧
  ∃ (n1 : Int),
  At Pr w2 (loadVar 3 a2) (.int .i64 n1) ∧
  brc (decide (n1 < (1 : Int)))
    (∃ (v1 : Value),
      At Pr w2 (Instr.makeInterface 9 (.string (⟨#[99, 97, 110, 110, 111, 116, 32, 98, 101, 32, 108, 101, 115, 115, 32, 116, 104, 97, 110, 32, 49]⟩ : ByteArray))) v1 ∧
      False)
    (R (.func (.func 161) #[] #[(.pointer (some a1)), (.pointer (some a2))]) w2)

theorem call147 {x0 : SV} {x1 : Int} {w0 : World} {R : Ending → World → Prop} (h : ir147 x0 x1 w0 fun v w => R (.returned v) w) : Calls Pr 147 #[.slice x0.a x0.len x0.cap, .int .i64 x1] w0 R := by
  refine calls_of_vc (ann := []) (E := []) (args := [.slice x0.a x0.len x0.cap, .int .i64 x1]) follows Try.func147 rfl (by kernel_rfl) ?_
  apply by_eq h
  kernel_rfl

/-- creel/frame.span -/
def ir153 (x0 : SV) (w0 : World) (R : Value → World → Prop) : Prop :=
  ((0 : Int) ≤ (if 4 < ((x0.len : Nat) : Int) then 4 else ((x0.len : Nat) : Int)) ∧ (if 4 < ((x0.len : Nat) : Int) then 4 else ((x0.len : Nat) : Int)) ≤ ((x0.cap : Nat) : Int)) ∧
  Calls Pr 165 #[(.slice (cutAt x0.a 0 x0.cap 1) ((Int.toNat (if 4 < ((x0.len : Nat) : Int) then 4 else ((x0.len : Nat) : Int))) - 0) (x0.cap - 0)), (.int .i64 4)] w0 fun e1 w1 =>
    ∃ (n1 : Int) (s1 : SV) (n2 : Int),
    e1 = .returned (.tuple #[(.int .u64 n1), (.slice s1.a s1.len s1.cap), (.int .i64 n2)]) ∧
    brc (n2 != (0 : Int))
      (R (.tuple #[(.int .i64 0), (.int .i64 5)]) w1)
      (brc (decide (n1 > (4096 : Int)))
          (R (.tuple #[(.int .i64 0), (.int .i64 6)]) w1)
          (brc (decide (((x0.len : Nat) : Int) < (IntKind.wrap .i64 (8 + (IntKind.wrap .i64 n1)))))
              (R (.tuple #[(.int .i64 0), (.int .i64 5)]) w1)
              (R (.tuple #[(.int .i64 (IntKind.wrap .i64 (4 + (IntKind.wrap .i64 n1)))), (.int .i64 0)]) w1)))

theorem call153 {x0 : SV} {w0 : World} {R : Ending → World → Prop} (h : ir153 x0 w0 fun v w => R (.returned v) w) : Calls Pr 153 #[.slice x0.a x0.len x0.cap] w0 R := by
  refine calls_of_vc (ann := []) (E := []) (args := [.slice x0.a x0.len x0.cap]) follows Try.func153 rfl (by kernel_rfl) ?_
  apply by_eq h
  kernel_rfl

/-- creel/frame.sealed -/
def ir154 (x0 : SV) (w0 : World) (R : Value → World → Prop) : Prop :=
  ((0 : Int) ≤ (IntKind.wrap .i64 (((x0.len : Nat) : Int) - 4)) ∧ (IntKind.wrap .i64 (((x0.len : Nat) : Int) - 4)) ≤ ((x0.cap : Nat) : Int)) ∧
  Calls Pr 137 #[(.slice (cutAt x0.a 0 x0.cap 1) ((Int.toNat (IntKind.wrap .i64 (((x0.len : Nat) : Int) - 4))) - 0) (x0.cap - 0))] w0 fun e1 w1 =>
    ∃ (s1 : SV),
    e1 = .returned (.slice s1.a s1.len s1.cap) ∧
    Calls Pr 166 #[(.slice s1.a s1.len s1.cap), (.slice x0.a x0.len x0.cap)] w1 fun e2 w2 =>
      ∃ (b1 : Bool),
      e2 = .returned (.bool b1) ∧
      R (.bool b1) w2

theorem call154 {x0 : SV} {w0 : World} {R : Ending → World → Prop} (h : ir154 x0 w0 fun v w => R (.returned v) w) : Calls Pr 154 #[.slice x0.a x0.len x0.cap] w0 R := by
  refine calls_of_vc (ann := []) (E := []) (args := [.slice x0.a x0.len x0.cap]) follows Try.func154 rfl (by kernel_rfl) ?_
  apply by_eq h
  kernel_rfl

/-- creel/creelref01.Unfix -/
def ir157 (x0 : SV) (x1 : Int) (w0 : World) (R : Value → World → Prop) : Prop :=
  brc (decide (x1 < (1 : Int)))
    (R (.tuple #[(.int .u64 0), (.slice none 0 0), (.int .i64 1)]) w0)
    (brc (decide (x1 > (8 : Int)))
        (R (.tuple #[(.int .u64 0), (.slice none 0 0), (.int .i64 1)]) w0)
        (brc (decide (((x0.len : Nat) : Int) < x1))
            (R (.tuple #[(.int .u64 0), (.slice none 0 0), (.int .i64 5)]) w0)
            (LoopT (σ := Int × Int × Unit) (fun σ1 w1 K1 =>
                ∀ _ : Env,
                brc (decide (σ1.1 < x1))
                  (((0 : Int) ≤ σ1.1 ∧ σ1.1 < ((x0.len : Nat) : Int)) ∧
                    optK x0.a fun a1 =>
                      ∃ (n1 : Int),
                      At Pr w1 (loadVar 5 (Addr.add a1 (Int.toNat σ1.1 * 1))) (.int .u8 n1) ∧
                      K1 (IntKind.wrap .i64 (σ1.1 + 1), IntKind.wrap .u64 ((IntKind.wrap .u64 (σ1.2.1 * 256)) + (IntKind.wrap .u64 n1)), ()) w1)
                  (∃ (s1 : SV) (w2 : World),
                    Sem.run Pr (Instr.buildSlice 26 0 #[]) w1 = .ok (.slice s1.a s1.len s1.cap) w2 ∧
                    ((0 : Int) ≤ x1 ∧ x1 ≤ ((x0.len : Nat) : Int)) ∧
                    ∃ (s2 : SV) (w3 : World),
                    Sem.run Pr (Builtin.append_ #[26, 26] 26 #[(.slice s1.a s1.len s1.cap), (.slice (cutAt x0.a (Int.toNat x1) x0.cap 1) (x0.len - (Int.toNat x1)) (x0.cap - (Int.toNat x1)))]) w2 = .ok (.slice s2.a s2.len s2.cap) w3 ∧
                    R (.tuple #[(.int .u64 σ1.2.1), (.slice s2.a s2.len s2.cap), (.int .i64 0)]) w3)) (0, 0, ()) w0)))

theorem call157 {x0 : SV} {x1 : Int} {w0 : World} {R : Ending → World → Prop} (h : ir157 x0 x1 w0 fun v w => R (.returned v) w) : Calls Pr 157 #[.slice x0.a x0.len x0.cap, .int .i64 x1] w0 R := by
  refine calls_of_vc (ann := [(7, [(8, .int .i64), (7, .int .u64)])]) (E := []) (args := [.slice x0.a x0.len x0.cap, .int .i64 x1]) follows Try.func157 rfl (by kernel_rfl) ?_
  apply by_eq h
  kernel_rfl

/-- creel/creelref03.Unseal -/
def ir158 (x0 : SV) (w0 : World) (R : Value → World → Prop) : Prop :=
  brc (decide (((x0.len : Nat) : Int) < (4 : Int)))
    (R (.tuple #[(.slice none 0 0), (.int .i64 5)]) w0)
    (∃ (s1 : SV) (w1 : World),
      Sem.run Pr (Instr.buildSlice 26 0 #[]) w0 = .ok (.slice s1.a s1.len s1.cap) w1 ∧
      ((0 : Int) ≤ (IntKind.wrap .i64 (((x0.len : Nat) : Int) - 4)) ∧ (IntKind.wrap .i64 (((x0.len : Nat) : Int) - 4)) ≤ ((x0.cap : Nat) : Int)) ∧
      ∃ (s2 : SV) (w2 : World),
      Sem.run Pr (Builtin.append_ #[26, 26] 26 #[(.slice s1.a s1.len s1.cap), (.slice (cutAt x0.a 0 x0.cap 1) ((Int.toNat (IntKind.wrap .i64 (((x0.len : Nat) : Int) - 4))) - 0) (x0.cap - 0))]) w1 = .ok (.slice s2.a s2.len s2.cap) w2 ∧
      ∃ (S1 : World → Prop),
      S1 (World.drew w2) ∧
      ∃ (str1 : ByteArray),
      AtS Pr S1 (convert 26 9 (.slice x0.a x0.len x0.cap)) (.string str1) ∧
      Calls Pr 128 #[(.slice s2.a s2.len s2.cap)] (World.drew w2) fun e1 w3 =>
        ∃ (s3 : SV),
        e1 = .returned (.slice s3.a s3.len s3.cap) ∧
        ∃ (S2 : World → Prop),
        (∀ w, S2 w → S1 w) ∧
        S2 w3 ∧
        ∃ (str2 : ByteArray),
        AtS Pr S2 (convert 26 9 (.slice s3.a s3.len s3.cap)) (.string str2) ∧
        brc (!(ByteArray.toList str2 == ByteArray.toList str1))
          (R (.tuple #[(.slice none 0 0), (.int .i64 6)]) w3)
          (R (.tuple #[(.slice s2.a s2.len s2.cap), (.int .i64 0)]) w3))

theorem call158 {x0 : SV} {w0 : World} {R : Ending → World → Prop} (h : ir158 x0 w0 fun v w => R (.returned v) w) : Calls Pr 158 #[.slice x0.a x0.len x0.cap] w0 R := by
  refine calls_of_vc (ann := []) (E := []) (args := [.slice x0.a x0.len x0.cap]) follows Try.func158 rfl (by kernel_rfl) ?_
  apply by_eq h
  kernel_rfl

/-- slices.Chunk[[]byte,byte]$1 -/
def ir161 (x0 : FV) (c0 : Addr) (c1 : Addr) (w0 : World) (R : Value → World → Prop) : Prop :=
  LoopT (σ := Int × Unit) (fun σ1 w1 K1 =>
    ∀ _ : Env,
    ∃ (s1 : SV),
    At Pr w1 (loadVar 26 c0) (.slice s1.a s1.len s1.cap) ∧
    brc (decide (σ1.1 < ((s1.len : Nat) : Int)))
      (∃ (S1 : World → Prop),
        S1 (World.drew w1) ∧
        ∃ (n1 : Int),
        AtS Pr S1 (loadVar 3 c1) (.int .i64 n1) ∧
        ∃ (s2 : SV),
        AtS Pr S1 (loadVar 26 c0) (.slice s2.a s2.len s2.cap) ∧
        ((0 : Int) ≤ σ1.1 ∧ σ1.1 ≤ ((s2.len : Nat) : Int)) ∧
        ∃ (s3 : SV),
        At Pr (World.drew w1) (loadVar 26 c0) (.slice s3.a s3.len s3.cap) ∧
        ((0 : Int) ≤ (IntKind.wrap .i64 (σ1.1 + (if ((s2.len - (Int.toNat σ1.1) : Nat) : Int) < n1 then ((s2.len - (Int.toNat σ1.1) : Nat) : Int) else n1))) ∧ (IntKind.wrap .i64 (σ1.1 + (if ((s2.len - (Int.toNat σ1.1) : Nat) : Int) < n1 then ((s2.len - (Int.toNat σ1.1) : Nat) : Int) else n1))) ≤ ((s3.cap : Nat) : Int)) ∧
        ((0 : Int) ≤ (IntKind.wrap .i64 (σ1.1 + (if ((s2.len - (Int.toNat σ1.1) : Nat) : Int) < n1 then ((s2.len - (Int.toNat σ1.1) : Nat) : Int) else n1))) ∧ (IntKind.wrap .i64 (σ1.1 + (if ((s2.len - (Int.toNat σ1.1) : Nat) : Int) < n1 then ((s2.len - (Int.toNat σ1.1) : Nat) : Int) else n1))) ≤ ((Int.toNat (IntKind.wrap .i64 (σ1.1 + (if ((s2.len - (Int.toNat σ1.1) : Nat) : Int) < n1 then ((s2.len - (Int.toNat σ1.1) : Nat) : Int) else n1))) : Nat) : Int)) ∧
        ((0 : Int) ≤ σ1.1 ∧ σ1.1 ≤ ((Int.toNat (IntKind.wrap .i64 (σ1.1 + (if ((s2.len - (Int.toNat σ1.1) : Nat) : Int) < n1 then ((s2.len - (Int.toNat σ1.1) : Nat) : Int) else n1))) : Nat) : Int)) ∧
        callV Pr (.func x0.f x0.a x0.b) [(.slice (cutAt s3.a (Int.toNat σ1.1) (Int.toNat (IntKind.wrap .i64 (σ1.1 + (if ((s2.len - (Int.toNat σ1.1) : Nat) : Int) < n1 then ((s2.len - (Int.toNat σ1.1) : Nat) : Int) else n1)))) 1) ((Int.toNat (IntKind.wrap .i64 (σ1.1 + (if ((s2.len - (Int.toNat σ1.1) : Nat) : Int) < n1 then ((s2.len - (Int.toNat σ1.1) : Nat) : Int) else n1)))) - (Int.toNat σ1.1)) ((Int.toNat (IntKind.wrap .i64 (σ1.1 + (if ((s2.len - (Int.toNat σ1.1) : Nat) : Int) < n1 then ((s2.len - (Int.toNat σ1.1) : Nat) : Int) else n1)))) - (Int.toNat σ1.1)))] (World.drew w1) fun e1 w2 =>
          ∃ (b1 : Bool),
          e1 = .returned (.bool b1) ∧
          brc (!b1)
            (R (.tuple #[]) w2)
            (∃ (n2 : Int),
              At Pr w2 (loadVar 3 c1) (.int .i64 n2) ∧
              K1 (IntKind.wrap .i64 (σ1.1 + n2), ()) w2))
      (R (.tuple #[]) w1)) (0, ()) w0

theorem call161 {x0 : FV} {c0 : Addr} {c1 : Addr} {w0 : World} {R : Ending → World → Prop} (h : ir161 x0 c0 c1 w0 fun v w => R (.returned v) w) : Calls Pr 161 #[.func x0.f x0.a x0.b, .pointer (some c0), .pointer (some c1)] w0 R := by
  refine calls_of_vc (ann := [(1, [(4, .int .i64)])]) (E := []) (args := [.func x0.f x0.a x0.b, .pointer (some c0), .pointer (some c1)]) follows Try.func161 rfl (by kernel_rfl) ?_
  apply by_eq h
  kernel_rfl

/-- creel/vary.Unfix -/
def ir165 (x0 : SV) (x1 : Int) (w0 : World) (R : Value → World → Prop) : Prop :=
  brc (decide (x1 < (1 : Int)))
    (R (.tuple #[(.int .u64 0), (.slice none 0 0), (.int .i64 1)]) w0)
    (brc (decide (x1 > (8 : Int)))
        (R (.tuple #[(.int .u64 0), (.slice none 0 0), (.int .i64 1)]) w0)
        (brc (decide (((x0.len : Nat) : Int) < x1))
            (R (.tuple #[(.int .u64 0), (.slice none 0 0), (.int .i64 5)]) w0)
            (((0 : Int) ≤ x1 ∧ x1 ≤ ((x0.cap : Nat) : Int)) ∧
              LoopT (σ := Int × Int × Unit) (fun σ1 w1 K1 =>
                ∀ _ : Env,
                brc (decide (σ1.1 < (((Int.toNat x1) - 0 : Nat) : Int)))
                  (((0 : Int) ≤ σ1.1 ∧ σ1.1 < (((Int.toNat x1) - 0 : Nat) : Int)) ∧
                    optK (cutAt x0.a 0 x0.cap 1) fun a1 =>
                      ∃ (n1 : Int),
                      At Pr w1 (loadVar 5 (Addr.add a1 (Int.toNat σ1.1 * 1))) (.int .u8 n1) ∧
                      (0 : Int) ≤ 8 ∧
                      K1 (IntKind.wrap .i64 (σ1.1 + 1), IntKind.wrap .u64 ((BitVec.ofInt (IntKind.bits .u64) (IntKind.wrap .u64 (σ1.2.1 * 2 ^ (min (Int.toNat 8) (IntKind.bits .u64)))) ||| BitVec.ofInt (IntKind.bits .u64) (IntKind.wrap .u64 n1)).toNat), ()) w1)
                  (((0 : Int) ≤ x1 ∧ x1 ≤ ((x0.len : Nat) : Int)) ∧
                    Calls Pr 88 #[(.slice (cutAt x0.a (Int.toNat x1) x0.cap 1) (x0.len - (Int.toNat x1)) (x0.cap - (Int.toNat x1)))] w1 fun e1 w2 =>
                      ∃ (s1 : SV),
                      e1 = .returned (.slice s1.a s1.len s1.cap) ∧
                      R (.tuple #[(.int .u64 σ1.2.1), (.slice s1.a s1.len s1.cap), (.int .i64 0)]) w2)) (0, 0, ()) w0)))

theorem call165 {x0 : SV} {x1 : Int} {w0 : World} {R : Ending → World → Prop} (h : ir165 x0 x1 w0 fun v w => R (.returned v) w) : Calls Pr 165 #[.slice x0.a x0.len x0.cap, .int .i64 x1] w0 R := by
  refine calls_of_vc (ann := [(7, [(26, .int .i64), (7, .int .u64)])]) (E := []) (args := [.slice x0.a x0.len x0.cap, .int .i64 x1]) follows Try.func165 rfl (by kernel_rfl) ?_
  apply by_eq h
  kernel_rfl

/-- slices.Equal[[]byte,byte] -/
def ir166 (x0 : SV) (x1 : SV) (w0 : World) (R : Value → World → Prop) : Prop :=
  brc (((x0.len : Nat) : Int) != ((x1.len : Nat) : Int))
    (R (.bool false) w0)
    (LoopT (σ := Int × Unit) (fun σ1 w1 K1 =>
        ∀ _ : Env,
        brc (decide (σ1.1 < ((x0.len : Nat) : Int)))
          (∃ (S1 : World → Prop),
            S1 (World.drew w1) ∧
            ((0 : Int) ≤ σ1.1 ∧ σ1.1 < ((x0.len : Nat) : Int)) ∧
            optK x0.a fun a1 =>
              ∃ (n1 : Int),
              AtS Pr S1 (loadVar 5 (Addr.add a1 (Int.toNat σ1.1 * 1))) (.int .u8 n1) ∧
              ((0 : Int) ≤ σ1.1 ∧ σ1.1 < ((x1.len : Nat) : Int)) ∧
              optK x1.a fun a2 =>
                ∃ (n2 : Int),
                AtS Pr S1 (loadVar 5 (Addr.add a2 (Int.toNat σ1.1 * 1))) (.int .u8 n2) ∧
                brc (n1 != n2)
                  (R (.bool false) (World.drew w1))
                  (K1 (IntKind.wrap .i64 (σ1.1 + 1), ()) (World.drew w1)))
          (R (.bool true) w1)) (0, ()) w0)

theorem call166 {x0 : SV} {x1 : SV} {w0 : World} {R : Ending → World → Prop} (h : ir166 x0 x1 w0 fun v w => R (.returned v) w) : Calls Pr 166 #[.slice x0.a x0.len x0.cap, .slice x1.a x1.len x1.cap] w0 R := by
  refine calls_of_vc (ann := [(4, [(13, .int .i64)])]) (E := []) (args := [.slice x0.a x0.len x0.cap, .slice x1.a x1.len x1.cap]) follows Try.func166 rfl (by kernel_rfl) ?_
  apply by_eq h
  kernel_rfl

end Go.Proofs.Ytonjaaljnjjjcaa
