/- What 'vc' of these functions comes to, and their calls by it. Printed by dec.py. -/
import Derived.OrdersHeld
import Derived.Tactics
import Derived.Defers
import Derived.RangeFuncRecord
import Derived.WalkKit
import Derived.OrdersIn
import Derived.Deep.LoopGhost
import Derived.Test.YtonjaaljnjjjcaaChecked
import Derived.KernelRfl
/- A weakest-precondition reading of the model's code as plain logic: 'vc', and its soundness. Conditions: none. -/
set_option linter.unusedVariables false
set_option linter.unusedSimpArgs false
namespace Go.Proofs.Ytonjaaljnjjjcaa
open Go

/-- What the temporaries hold. -/
abbrev Env := Nat → Value

def upd (ρ : Env) (d : Nat) (v : Value) : Env := fun i => match Nat.beq i d with
  | true => v
  | false => ρ i

def updO (ρ : Env) (d : Option Nat) (v : Value) : Env := match d with
  | some d => upd ρ d v
  | none => ρ

def ev (ρ : Env) : Operand → Value
  | .tmp t => ρ t
  | .const v => v
  | .global g => .pointer (some ⟨g, 0, none⟩)
  | .func f => .func (.func f) #[] #[]

def brc (t : Bool) (A B : Prop) : Prop := match t with
  | true => A
  | false => B

theorem brc_intro {t : Bool} {A B : Prop} (ha : t = true → A) (hb : t = false → B) : brc t A B := by
  cases t
  · exact hb rfl
  · exact ha rfl
theorem brc_true {t : Bool} {A B : Prop} (h : t = true) (ha : A) : brc t A B := by subst h; exact ha
theorem brc_false {t : Bool} {A B : Prop} (h : t = false) (hb : B) : brc t A B := by subst h; exact hb

def optK {α : Type} (p : Option α) (K : α → Prop) : Prop := match p with
  | some a => K a
  | none => False

/-- A slice's value. -/
structure SV where
  a : Option Addr
  len : Nat
  cap : Nat
def SV.v (s : SV) : Value := .slice s.a s.len s.cap

/-- A function's value. -/
structure FV where
  f : Fn
  a : Array Value
  b : Array Value

/-- How a value is read: in one world, or in every world of a class. -/
abbrev Rd := Sem Value → Value → Prop
def At (P : Program) (w : World) : Rd := fun m v => m.run P w = .ok v w
def AtS (P : Program) (S : World → Prop) : Rd := fun m v => ∀ w, S w → m.run P w = .ok v w

def exLeaf (d : TypeDesc) (K : Value → Prop) : Prop := match d with
  | .bool => ∃ b, K (.bool b)
  | .int k => ∃ n, K (.int k n)
  | .string => ∃ s, K (.string s)
  | .pointer _ => ∃ a, K (.pointer a)
  | .slice _ => ∃ s : SV, K (.slice s.a s.len s.cap)
  | .map _ _ => ∃ r, K (.map r)
  | .func _ _ _ => ∃ x : FV, K (.func x.f x.a x.b)
  | _ => ∃ v, K v

mutual
def exCells (P : Program) : Nat → TypeId → (List Value → Prop) → Prop
  | 0, _, _ => False
  | n + 1, t, K => match P.underlying t with
    | some (.struct fs) => exFields P n fs.toList K
    | some (.array _ _) => ∃ cs : Array Value, K cs.toList
    | some d => exLeaf d fun v => K [v]
    | none => False
def exFields (P : Program) : Nat → List Field → (List Value → Prop) → Prop
  | 0, _, _ => False
  | _ + 1, [], K => K []
  | n + 1, f :: fs, K => exCells P n f.type fun a => exFields P n fs fun b => K (a ++ b)
end

def exTy (P : Program) (t : TypeId) (K : Value → Prop) : Prop := match P.underlying t with
  | some (.struct fs) => exFields P 40 fs.toList fun l => K (.agg l.toArray)
  | some (.array _ _) => ∃ cs : Array Value, K (.agg cs)
  | some d => exLeaf d K
  | none => False

def exTys (P : Program) : List TypeId → (List Value → Prop) → Prop
  | [], K => K []
  | t :: ts, K => exTy P t fun v => exTys P ts fun vs => K (v :: vs)

def exRes (P : Program) (f : FuncId) (K : Value → Prop) : Prop := match P.funcs[f]? with
  | some fn => match fn.resultTypes.toList with
    | [] => K (.tuple #[])
    | [t] => exTy P t K
    | ts => exTys P ts fun vs => K (.tuple vs.toArray)
  | none => False

theorem exLeaf_ex {d : TypeDesc} {K : Value → Prop} (h : exLeaf d K) : ∃ v, K v := by
  unfold exLeaf at h
  split at h
  all_goals (obtain ⟨b, h⟩ := h; exact ⟨_, h⟩)

mutual
theorem exCells_ex {P : Program} : ∀ (n : Nat) (t : TypeId) (K : List Value → Prop), exCells P n t K → ∃ l, K l
  | 0, _, _, h => by simp [exCells] at h
  | n + 1, t, K, h => by
    unfold exCells at h
    split at h
    · exact exFields_ex n _ K h
    · obtain ⟨cs, h⟩ := h; exact ⟨_, h⟩
    · obtain ⟨v, h⟩ := exLeaf_ex h; exact ⟨_, h⟩
    · exact h.elim
theorem exFields_ex {P : Program} : ∀ (n : Nat) (fs : List Field) (K : List Value → Prop), exFields P n fs K → ∃ l, K l
  | 0, _, _, h => by simp [exFields] at h
  | _ + 1, [], K, h => by simp [exFields] at h; exact ⟨_, h⟩
  | n + 1, f :: fs, K, h => by
    simp only [exFields] at h
    obtain ⟨a, h⟩ := exCells_ex n f.type _ h
    obtain ⟨b, h⟩ := exFields_ex n fs _ h
    exact ⟨_, h⟩
end

theorem exTy_ex {P : Program} {t : TypeId} {K : Value → Prop} (h : exTy P t K) : ∃ v, K v := by
  unfold exTy at h
  split at h
  · obtain ⟨v, h⟩ := exFields_ex _ _ _ h; exact ⟨_, h⟩
  · obtain ⟨cs, h⟩ := h; exact ⟨_, h⟩
  · exact exLeaf_ex h
  · exact h.elim

theorem exTys_ex {P : Program} : ∀ (ts : List TypeId) (K : List Value → Prop), exTys P ts K → ∃ l, K l
  | [], K, h => ⟨_, h⟩
  | t :: ts, K, h => by
    simp only [exTys] at h
    obtain ⟨v, h⟩ := exTy_ex h
    obtain ⟨l, h⟩ := exTys_ex ts _ h
    exact ⟨_, h⟩

theorem exRes_ex {P : Program} {f : FuncId} {K : Value → Prop} (h : exRes P f K) : ∃ v, K v := by
  unfold exRes at h
  split at h
  · split at h
    · exact ⟨_, h⟩
    · exact exTy_ex h
    · obtain ⟨l, h⟩ := exTys_ex _ _ h; exact ⟨_, h⟩
  · exact h.elim

def kEq (k k' : IntKind) (A : Prop) : Prop := match decEq k k' with
  | isTrue _ => A
  | isFalse _ => False

theorem kEq_of {k k' : IntKind} {A : Prop} (h : kEq k k' A) : k = k' ∧ A := by
  unfold kEq at h
  split at h
  · rename_i e _; exact ⟨e, h⟩
  · exact h.elim

/-- A binary operation on plain values; all else by 'E'. -/
def binV (P : Program) (op : BinOp) (t : TypeId) (x y : Value) (E : Prop) (K : Value → Prop) : Prop :=
  match op, x, y with
  | .shl, .int k a, .int _ b => 0 ≤ b ∧ K (.int k (k.wrap (a * 2 ^ min b.toNat k.bits)))
  | .shr, .int k a, .int _ b => 0 ≤ b ∧ K (.int k (a.fdiv (2 ^ min b.toNat k.bits)))
  | .add, .int k a, .int k' b => kEq k k' (K (.int k (k.wrap (a + b))))
  | .sub, .int k a, .int k' b => kEq k k' (K (.int k (k.wrap (a - b))))
  | .mul, .int k a, .int k' b => kEq k k' (K (.int k (k.wrap (a * b))))
  | .quo, .int k a, .int k' b => kEq k k' (b ≠ 0 ∧ K (.int k (k.wrap (a.tdiv b))))
  | .rem, .int k a, .int k' b => kEq k k' (b ≠ 0 ∧ K (.int k (a.tmod b)))
  | .and, .int k a, .int k' b => kEq k k' (K (.int k (k.wrap (BitVec.ofInt k.bits a &&& BitVec.ofInt k.bits b).toNat)))
  | .or, .int k a, .int k' b => kEq k k' (K (.int k (k.wrap (BitVec.ofInt k.bits a ||| BitVec.ofInt k.bits b).toNat)))
  | .xor, .int k a, .int k' b => kEq k k' (K (.int k (k.wrap (BitVec.ofInt k.bits a ^^^ BitVec.ofInt k.bits b).toNat)))
  | .andNot, .int k a, .int k' b => kEq k k' (K (.int k (k.wrap (BitVec.ofInt k.bits a &&& ~~~BitVec.ofInt k.bits b).toNat)))
  | .eql, .int k a, .int k' b => kEq k k' (K (.bool (a == b)))
  | .neq, .int k a, .int k' b => kEq k k' (K (.bool (a != b)))
  | .lss, .int k a, .int k' b => kEq k k' (K (.bool (a < b)))
  | .leq, .int k a, .int k' b => kEq k k' (K (.bool (a ≤ b)))
  | .gtr, .int k a, .int k' b => kEq k k' (K (.bool (a > b)))
  | .geq, .int k a, .int k' b => kEq k k' (K (.bool (a ≥ b)))
  | .add, .string a, .string b => ((a.size + b.size : Nat) : Int) ≤ IntKind.i64.max ∧ K (.string (a ++ b))
  | .eql, .string a, .string b => K (.bool (a.toList == b.toList))
  | .neq, .string a, .string b => K (.bool !(a.toList == b.toList))
  | .lss, .string a, .string b => K (.bool (Op.bytesLess a.toList b.toList))
  | .leq, .string a, .string b => K (.bool (Op.bytesLess a.toList b.toList || a.toList == b.toList))
  | .gtr, .string a, .string b => K (.bool !(Op.bytesLess a.toList b.toList || a.toList == b.toList))
  | .geq, .string a, .string b => K (.bool !(Op.bytesLess a.toList b.toList))
  | .eql, .bool a, .bool b => match P.underlying t with
    | some .bool => K (.bool (a == b))
    | _ => E
  | .neq, .bool a, .bool b => match P.underlying t with
    | some .bool => K (.bool (!(a == b)))
    | _ => E
  | .eql, .pointer p, .pointer none => match P.underlying t with
    | some (.pointer _) => K (.bool p.isNone)
    | _ => E
  | .neq, .pointer p, .pointer none => match P.underlying t with
    | some (.pointer _) => K (.bool (!p.isNone))
    | _ => E
  | _, _, _ => E

/-- Where a field lies in its struct; none where it is of no size. -/
def fieldOff (P : Program) (s : TypeId) (f : Nat) : Option Nat :=
  match P.underlying s with
  | some (.struct fs) => match fs.toList[f]? with
    | some x => match P.info? x.type with
      | some i => match i.size with
        | 0 => none
        | _ + 1 => some x.offset
      | none => none
    | none => none
  | _ => none

def sizeOf? (P : Program) (t : TypeId) : Option Nat := (P.info? t).map (·.size)

/-- One bound of a slice expression. -/
def boundK (x : Option Value) (dflt : Nat) (top : Nat) (K : Nat → Prop) : Prop :=
  match x with
  | none => K dflt
  | some (.int _ i) => (0 ≤ i ∧ i ≤ top) ∧ K i.toNat
  | some _ => False

def addAt (a : Option Addr) (n : Nat) : Option Addr := a.map (·.add n)

/-- The address behind l of m elements: at the end the old one. -/
def cutAt (a : Option Addr) (l m size : Nat) : Option Addr := if m = l then a else a.map (·.add (l * size))

def plainFunc (P : Program) (f : FuncId) : Bool := match P.funcs[f]? with
  | some fn => fn.body.isSome && !(fn.name == "runtime.NumGoroutine")
  | none => false

def isStringT (P : Program) (t : TypeId) : Bool := match P.underlying t with
  | some .string => true
  | _ => false

/-- Does an operation only read? -/
def isRd (P : Program) : Op → Bool
  | .move _ | .assign _ | .pick .. | .load .. | .nilCheck _ | .binOp .. | .unOp .. | .fieldAddr .. | .field .. | .indexAddr .. | .index .. | .lookup .. | .extract .. | .makeFunc .. | .build .. | .makeInterface .. | .typeAssert .. | .entry _ => true
  | .slice .. => true
  | .convert s d _ => match P.underlying s, P.underlying d with
    | some (.int _), some (.int _) => true
    | some (.slice _), some .string => true
    | some .string, some .string => true
    | _, _ => false
  | .call { callee := .builtin .len, .. } | .call { callee := .builtin .cap, .. } | .call { callee := .builtin .min, .. } | .call { callee := .builtin .max, .. } => true
  | _ => false

def elemT (P : Program) (t : TypeId) : TypeId := match P.underlying t with
  | some (.slice e) => e
  | some (.map _ e) => e
  | some (.array _ e) => e
  | some (.pointer e) => e
  | _ => 0

/-- The cells from 'off' on overwritten. -/
def putL : List Value → Nat → List Value → List Value
  | cs, _, [] => cs
  | cs, off, v :: vs => putL (cs.set off v) (off + 1) vs

def fillL (place : Nat → Option (Nat × Nat)) (cells : List Value) : List (Nat × Value) → Option (List Value)
  | [] => some cells
  | p :: rest => match place p.1 with
    | none => none
    | some q => match Nat.beq p.2.cells.toList.length q.2 && Nat.ble (q.1 + p.2.cells.toList.length) cells.length with
      | true => fillL place (putL cells q.1 p.2.cells.toList) rest
      | false => none

def placeL (P : Program) : List Field → Nat → Option (Nat × Nat)
  | [], _ => none
  | f :: fs, i => match i with
    | 0 => match sizeOf? P f.type with
      | some n => some (f.offset, n)
      | none => none
    | i + 1 => placeL P fs i

def sizesOk (P : Program) : List Field → Bool
  | [] => true
  | f :: fs => match sizeOf? P f.type with
    | some _ => sizesOk P fs
    | none => false

/-- What a struct's literal is. -/
def buildV (P : Program) (t : TypeId) (parts : List (Nat × Value)) : Option (List Value) :=
  match P.underlying t, P.info? t with
  | some (.struct fs), some i => match i.zero, sizesOk P fs.toList with
    | some z, true => fillL (placeL P fs.toList) z.cells.toList parts
    | _, _ => none
  | _, _ => none

def evp (ρ : Env) (xs : Array (Nat × Operand)) : List (Nat × Value) := xs.toList.map fun p => (p.1, ev ρ p.2)

def evs (ρ : Env) (xs : Array Operand) : List Value := xs.toList.map (ev ρ)

/-- What min and max of whole numbers are. -/
def minMaxV (mx : Bool) (l : List Value) (E : Prop) (K : Value → Prop) : Prop := match l with
  | [.int k a, .int k' b] => kEq k k' (K (.int k (match mx with
    | true => if b > a then b else a
    | false => if b < a then b else a)))
  | _ => E

def lookN (l : List (Nat × TypeId)) (i : Nat) : Option TypeId := match l with
  | [] => none
  | x :: l => match Nat.beq i x.1 with
    | true => some x.2
    | false => lookN l i

/-- The value that a reading operation yields. -/
def rdOp (P : Program) (E : List (Nat × TypeId)) (R : Rd) (ρ : Env) (op : Op) (ty : TypeId) (K : Value → Prop) : Prop :=
  match op with
  | .move x | .assign x => K (ev ρ x)
  | .pick c a b => match ev ρ c with
    | .bool t => brc t (K (ev ρ a)) (K (ev ρ b))
    | _ => False
  | .load t x => match ev ρ x with
    | .pointer (some a) => exTy P t fun v => R (loadVar t a) v ∧ K v
    | _ => False
  | .nilCheck x => match ev ρ x with
    | .pointer p => optK p fun a => K (.pointer (some a))
    | .func (.func f) a b => K (.func (.func f) a b)
    | _ => False
  | .binOp o t x y _ => binV P o t (ev ρ x) (ev ρ y) (exTy P ty fun v => R (do eqGuard o t x y (ev ρ x) (ev ρ y); binOp o t (ev ρ x) (ev ρ y)) v ∧ K v) K
  | .unOp o _ x => match o, ev ρ x with
    | .not, .bool b => K (.bool !b)
    | .neg, .int k n => K (.int k (k.wrap (0 - n)))
    | .xor, .int k n => K (.int k (k.wrap (BitVec.ofInt k.bits (if k.signed then -1 else k.max) ^^^ BitVec.ofInt k.bits n).toNat))
    | _, _ => False
  | .fieldAddr s x f => match ev ρ x, fieldOff P s f with
    | .pointer (some a), some off => K (.pointer (some (a.add off)))
    | _, _ => False
  | .indexAddr t x i => match P.underlying t, ev ρ x, ev ρ i with
    | some (.slice e), .slice a len _, .int _ i => match sizeOf? P e with
      | some size => (0 ≤ i ∧ i < (len : Int)) ∧ optK a fun a => K (.pointer (some (a.add (i.toNat * size))))
      | none => False
    | some (.array len e), .pointer (some a), .int _ i => match sizeOf? P e with
      | some size => (0 ≤ i ∧ i < (len : Int)) ∧ K (.pointer (some (a.add (i.toNat * size))))
      | none => False
    | _, _, _ => False
  | .extract x i => match ev ρ x with
    | .tuple vs => match vs.toList[i]? with
      | some v => K v
      | none => False
    | _ => False
  | .makeFunc f first captured => K (.func f (evs ρ first).toArray (evs ρ captured).toArray)
  | .slice t x lo hi mx => match P.underlying t, ev ρ x with
    | some (.slice e), .slice a len cap => match sizeOf? P e, mx with
      | some size, none => boundK (hi.map (ev ρ)) len cap fun h => boundK (lo.map (ev ρ)) 0 h fun l => K (.slice (cutAt a l cap size) (h - l) (cap - l))
      | some size, some m => match hi with
        | some hi => boundK (some (ev ρ m)) cap cap fun m => boundK (some (ev ρ hi)) len m fun h => boundK (lo.map (ev ρ)) 0 h fun l => K (.slice (cutAt a l m size) (h - l) (m - l))
        | none => False
      | none, _ => False
    | some .string, .string s => match mx with
      | none => boundK (hi.map (ev ρ)) s.size s.size fun h => boundK (lo.map (ev ρ)) 0 h fun l => K (.string (s.extract l h))
      | some _ => False
    | _, _ => False
  | .convert s d x => match P.underlying s, P.underlying d, ev ρ x with
    | some (.int _), some (.int k), .int _ n => K (.int k (k.wrap n))
    | some .string, some .string, .string z => K (.string z)
    | _, _, v => exTy P ty fun u => R (convert s d v) u ∧ K u
  | .call { callee := .builtin .len, args, argTypes } => match evs ρ args, argTypes.toList with
    | [.slice _ n _], [t] => match P.underlying t with
      | some (.slice _) => K (.int .i64 n)
      | _ => False
    | [.string s], [t] => match P.underlying t with
      | some .string => K (.int .i64 s.size)
      | _ => False
    | vs, _ => exTy P ty fun v => R (Builtin.len_ argTypes ty vs.toArray) v ∧ K v
  | .call { callee := .builtin .cap, args, argTypes } => exTy P ty fun v => R (Builtin.cap_ argTypes ty (evs ρ args).toArray) v ∧ K v
  | .call { callee := .builtin .min, args, argTypes } => minMaxV false (evs ρ args) (exTy P ty fun v => R (Builtin.min_ argTypes ty (evs ρ args).toArray) v ∧ K v) K
  | .call { callee := .builtin .max, args, argTypes } => minMaxV true (evs ρ args) (exTy P ty fun v => R (Builtin.max_ argTypes ty (evs ρ args).toArray) v ∧ K v) K
  | .lookup t x i ok => match ok with
    | false => exTy P (elemT P t) fun v => R (Instr.lookup t (ev ρ x) (ev ρ i) false) v ∧ K v
    | true => exTy P (elemT P t) fun v => ∃ b, R (Instr.lookup t (ev ρ x) (ev ρ i) true) (.tuple #[v, .bool b]) ∧ K (.tuple #[v, .bool b])
  | .entry x => match x with
    | .tmp t => match lookN E t with
      | some m => match P.underlying m with
        | some (.map k e) => exTy P k fun u => exTy P e fun v => R (Instr.entry (ev ρ x)) (.tuple #[u, v]) ∧ K (.tuple #[u, v])
        | _ => False
      | none => False
    | _ => False
  | .field t x f => exTy P ty fun v => R (Instr.field t (ev ρ x) f) v ∧ K v
  | .index t x i => exTy P ty fun v => R (Instr.index t (ev ρ x) (ev ρ i)) v ∧ K v
  | .build t parts => match buildV P t (evp ρ parts) with
    | some cs => K (.agg cs.toArray)
    | none => exTy P t fun v => R (Instr.build t (evp ρ parts).toArray) v ∧ K v
  | .makeInterface t x => exTy P ty fun v => R (Instr.makeInterface t (ev ρ x)) v ∧ K v
  | .typeAssert x a b ok => match ok with
    | false => exTy P b fun v => R (Instr.typeAssert (ev ρ x) a b false) v ∧ K v
    | true => False
  | _ => False

/-- Frames in no round, or in one. -/
abbrev Fr (r : Option Nat) : Fence := { Fence.wide with round := r }

/-- What an operation comes to. -/
def Does (P : Program) (m : Sem Next) (w : World) (K : Value → World → Prop) : Prop :=
  match m.run P w with
  | .ok (.value v) w' => K v w'
  | .ok .skip w' => K undef w'
  | .ok (.enter f args) w' => Calls P f args w' fun e w'' => ∃ v, e = .returned v ∧ K v w''
  | .ok (.round l f tmps assign body) w' => RoundIn (Fr none) 0 P l f tmps assign body w' fun e w'' => ∃ v, e = .returned v ∧ K v w''
  | _ => False

/-- A round of a range over a function: yield is called. -/
def YieldC (P : Program) (l : Nat) (args : Array Value) (w : World) (R : Ending → World → Prop) : Prop :=
  ∃ f tmps assign body w', (Instr.yield l args).run P w = .ok (.round l f tmps assign body) w' ∧ RoundIn (Fr none) 0 P l f tmps assign body w' R

def RunA (P : Program) (m : Sem Value) (w : World) (K : Value → World → Prop) : Prop := ∃ a w', m.run P w = .ok (.pointer (some a)) w' ∧ K (.pointer (some a)) w'
def RunS (P : Program) (m : Sem Value) (w : World) (K : Value → World → Prop) : Prop := ∃ (s : SV) (w' : World), m.run P w = .ok (.slice s.a s.len s.cap) w' ∧ K (.slice s.a s.len s.cap) w'
def RunM (P : Program) (m : Sem Value) (w : World) (K : Value → World → Prop) : Prop := ∃ r w', m.run P w = .ok (.map (some r)) w' ∧ K (.map (some r)) w'
def RunI (P : Program) (m : Sem Value) (w : World) (K : Value → World → Prop) : Prop := ∃ n w', m.run P w = .ok (.int .i64 n) w' ∧ K (.int .i64 n) w'
def RunT (P : Program) (m : Sem Value) (w : World) (K : Value → World → Prop) : Prop := ∃ w', m.run P w = .ok (.tuple #[]) w' ∧ K (.tuple #[]) w'
def RunU (P : Program) (m : Sem Unit) (w : World) (K : World → Prop) : Prop := ∃ w', m.run P w = .ok () w' ∧ K w'

/-- A step of a range over a map: none is left, or an entry comes. -/
def NextM (P : Program) (it : Value) (ty : TypeId) (w : World) (over : World → Prop) (entry : Value → Value → World → Prop) : Prop :=
  match (Instr.next it false ty).run P w with
  | .ok (.tuple ⟨[.bool false]⟩) w' => over w'
  | .ok (.tuple ⟨[.bool true, k, v]⟩) w' => entry k v w'
  | _ => False

/-- A call of a function value. -/
def callV (P : Program) (v : Value) (args : List Value) (w : World) (R : Ending → World → Prop) : Prop := match v with
  | .func (.func f) first captured => plainFunc P f = true ∧ Calls P f (first.toList ++ args ++ captured.toList).toArray w R
  | .func (.yield l) first _ => YieldC P l (first.toList ++ args).toArray w R
  | _ => False

def tupT (P : Program) (ty : TypeId) (i : Nat) : TypeId := match P.underlying ty with
  | some (.tuple ts) => ts.toList.getD i 0
  | _ => 0

/-- An operation that writes, makes memory, or calls. -/
def efOp (P : Program) (ρ : Env) (op : Op) (ty : TypeId) (w : World) (K : Value → World → Prop) : Prop :=
  match op with
  | .alloc t => RunA P (Instr.alloc t true (.tuple #[])) w K
  | .box t x => RunA P (Instr.box t (ev ρ x)) w K
  | .buildSlice t n parts => RunS P (Instr.buildSlice t n (evp ρ parts).toArray) w K
  | .store t a x => RunU P (Instr.storeAt t (ev ρ a) (ev ρ x)) w (K undef)
  | .mapUpdate t m k x | .insert t m k x => RunU P (Instr.mapUpdate t (ev ρ m) (ev ρ k) (ev ρ x)) w (K undef)
  | .makeMap t r => RunM P (Instr.makeMap t (r.map (ev ρ))) w K
  | .makeSlice t l c => RunS P (Instr.makeSlice t (ev ρ l) (ev ρ c)) w K
  | .convert s d x => RunS P (convert s d (ev ρ x)) w K
  | .range t x => RunA P (Instr.range t (ev ρ x)) w K
  | .next it s => match s with
    | false => NextM P (ev ρ it) ty w (K (.tuple #[.bool false])) fun k v w' => K (.tuple #[.bool true, k, v]) w'
    | true => False
  | .call { callee := .builtin .append, args, argTypes } => RunS P (Builtin.append_ argTypes ty (evs ρ args).toArray) w K
  | .call { callee := .builtin .copy, args, argTypes } => RunI P (Builtin.copy_ argTypes ty (evs ρ args).toArray) w K
  | .call { callee := .builtin .delete, args, argTypes } => RunT P (Builtin.delete_ argTypes ty (evs ρ args).toArray) w K
  | .call { callee := .value (.func f), args, .. } => match plainFunc P f with
    | true => Calls P f (evs ρ args).toArray w fun e w' => exRes P f fun v => e = .returned v ∧ K v w'
    | false => Does P (callFunc f (evs ρ args).toArray) w K
  | .call { callee := .value f, args, .. } => callV P (ev ρ f) (evs ρ args) w fun e w' => exTy P ty fun v => e = .returned v ∧ K v w'
  | _ => False

/-- The temporary that a guard looks at. -/
def guardDst (ops : List Oper) (j : Nat) : Option Nat := match ops[j]? with
  | some o => o.dst
  | none => none

/-- A guard's two ways. -/
def guardK (ops : List Oper) (g : Option (Nat × Bool)) (ρ : Env) (yes no : Env → Prop) : Prop :=
  match g with
  | none => yes ρ
  | some (j, want) => match guardDst ops j with
    | none => False
    | some d => match ρ d with
      | .bool t => match want with
        | true => brc t (yes (upd ρ d (.bool true))) (no (upd ρ d (.bool false)))
        | false => brc t (no (upd ρ d (.bool true))) (yes (upd ρ d (.bool false)))
      | _ => no ρ

def vcOp (P : Program) (E : List (Nat × TypeId)) (ρ : Env) (o : Oper) (w : World) (K : Value → World → Prop) : Prop :=
  match isRd P o.op with
  | true => rdOp P E (At P w) ρ o.op o.type fun v => K v w
  | false => efOp P ρ o.op o.type w K

/-- A region in the order of the text. -/
def vcOps (P : Program) (E : List (Nat × TypeId)) (ops : List Oper) : List Oper → Env → World → (Env → World → Prop) → Prop
  | [], ρ, w, K => K ρ w
  | o :: rest, ρ, w, K => guardK ops o.guard ρ
      (fun ρ => vcOp P E ρ o w fun v w' => vcOps P E ops rest (updO ρ o.dst v) w' K)
      (fun ρ => vcOps P E ops rest (updO ρ o.dst undef) w K)

def conjL {α : Type} (F : α → Prop) : List α → Prop
  | [] => True
  | [x] => F x
  | x :: y :: l => F x ∧ conjL F (y :: l)

theorem conjL_all {α : Type} {F : α → Prop} : ∀ {l : List α}, conjL F l → ∀ x ∈ l, F x
  | [], _, x, hx => by cases hx
  | [y], h, x, hx => by
    rw [List.mem_singleton] at hx; subst hx; exact h
  | y :: z :: l, h, x, hx => by
    rcases List.mem_cons.1 hx with rfl | hx
    · exact h.1
    · exact conjL_all h.2 x hx

/-- The first of those that only reads. -/
def firstRd (P : Program) (ops : List Oper) : List Nat → Option Nat
  | [] => none
  | i :: l => match ops[i]? with
    | some o => match isRd P o.op with
      | true => some i
      | false => firstRd P ops l
    | none => firstRd P ops l

/-- Does a reading hang on memory? -/
def heldRd (P : Program) : Op → Bool
  | .load .. | .lookup .. | .entry _ => true
  | .convert s _ _ => match P.underlying s with
    | some (.slice _) => true
    | _ => false
  | .binOp _ t _ _ _ => match P.underlying t with
    | some (.pointer _) => true
    | _ => false
  | .call { callee := .builtin .len, argTypes, .. } => match argTypes.toList with
    | [t] => match P.underlying t with
      | some (.map _ _) => true
      | _ => false
    | _ => true
  | _ => false

/-- Does operation j wait for each of these, by an edge of its own? -/
def cov (ops : List Oper) (j : Nat) : List Nat → Bool
  | [] => true
  | i :: l => match ops[j]? with
    | some o => match o.after.toList.any (fun e => Region.binds .any e && Nat.beq e.on i) with
      | true => cov ops j l
      | false => false
    | none => false

/-- A region whose order is drawn: readings first, under a condition S that stands while those of 'held' may yet come. -/
def vcDraw (P : Program) (E : List (Nat × TypeId)) (ops : List Oper) : (World → Prop) → List Nat → Nat → Array Bool → Env → World → (Env → World → Prop) → Prop
  | _, _, 0, listed, ρ, w, K => match Region.ready .any ops.toArray listed with
    | [] => K ρ w
    | _ => False
  | S, held, n + 1, listed, ρ, w, K => match Region.ready .any ops.toArray listed with
    | [] => K ρ w
    | rs => match firstRd P ops rs with
      | some i => match ops[i]?, Region.free .any ops.toArray listed i, rs.contains i with
        | some o, true, true => guardK ops o.guard ρ
            (fun ρ => match heldRd P o.op with
              | true => rdOp P E (AtS P S) ρ o.op o.type fun v => vcDraw P E ops S (i :: held) n (listed.setIfInBounds i true) (updO ρ o.dst v) w K
              | false => rdOp P E (AtS P fun _ => True) ρ o.op o.type fun v => vcDraw P E ops S held n (listed.setIfInBounds i true) (updO ρ o.dst v) w K)
            (fun ρ => vcDraw P E ops S held n (listed.setIfInBounds i true) (updO ρ o.dst undef) w K)
        | _, _, _ => False
      | none => conjL (fun i => match ops[i]? with
        | some o => guardK ops o.guard ρ
            (fun ρ => efOp P ρ o.op o.type w fun v w' => match cov ops i held with
              | true => ∃ S' : World → Prop, S' w' ∧ vcDraw P E ops S' [] n (listed.setIfInBounds i true) (updO ρ o.dst v) w' K
              | false => ∃ S' : World → Prop, (∀ w, S' w → S w) ∧ S' w' ∧ vcDraw P E ops S' held n (listed.setIfInBounds i true) (updO ρ o.dst v) w' K)
            (fun ρ => vcDraw P E ops S held n (listed.setIfInBounds i true) (updO ρ o.dst undef) w K)
        | none => False) rs

structure Post where
  nrm : Env → World → Prop
  ret : Env → World → Prop
  exit : Nat → Env → World → Prop

/-- The temporaries that a code writes. -/
def writes : Code → List Nat
  | .seq a b => writes a ++ writes b
  | .cond _ a b => writes a ++ writes b
  | .block _ c | .loop c | .scope c => writes c
  | .region _ ops _ => ops.toList.filterMap (·.dst)
  | _ => []

def memN (l : List Nat) (i : Nat) : Bool := match l with
  | [] => false
  | x :: l => match Nat.beq i x with
    | true => true
    | false => memN l i

/-- What is written out of one, all else out of the other. -/
def mix (ws : List Nat) (g ρ : Env) : Env := fun i => match memN ws i with
  | true => g i
  | false => ρ i

/-- What kind of value a loop's temporary holds at its head. -/
inductive Kd where
  | int (k : IntKind) | bool | str | ptr | slice | map | val | adr

def Kd.T : Kd → Type
  | .int _ => Int
  | .bool => Bool
  | .str => ByteArray
  | .ptr => Option Addr
  | .slice => SV
  | .map => Option Nat
  | .val => Value
  | .adr => Addr

def Kd.toV : (k : Kd) → k.T → Value
  | .int k, n => .int k n
  | .bool, b => .bool b
  | .str, s => .string s
  | .ptr, p => .pointer p
  | .slice, s => .slice (SV.a s) (SV.len s) (SV.cap s)
  | .map, r => .map r
  | .val, v => v
  | .adr, a => .pointer (some a)

def getV : (k : Kd) → Value → (k.T → Prop) → Prop
  | .int k, .int k' n, F => kEq k k' (F n)
  | .bool, .bool b, F => F b
  | .str, .string s, F => F s
  | .ptr, .pointer p, F => F p
  | .slice, .slice a l c, F => F (SV.mk a l c)
  | .map, .map r, F => F r
  | .val, v, F => F v
  | .adr, .pointer p, F => optK p F
  | _, _, _ => False

def Slots (l : List (Nat × Kd)) : Type := match l with
  | [] => Unit
  | x :: l => x.2.T × Slots l

def getK : (l : List (Nat × Kd)) → Env → (Slots l → Prop) → Prop
  | [], _, F => F ()
  | x :: l, ρ, F => getV x.2 (ρ x.1) fun v => getK l ρ fun s => F (v, s)

def putK : (l : List (Nat × Kd)) → Slots l → Env → Env
  | [], _, ρ => ρ
  | x :: l, s, ρ => upd (putK l s.2 ρ) x.1 (x.2.toV s.1)

/-- A loop over a state: an invariant with a number that each round lowers. -/
def LoopT {σ : Type} (step : σ → World → (σ → World → Prop) → Prop) (s : σ) (w : World) : Prop :=
  ∃ (I : Nat → σ → World → Prop) (n : Nat), I n s w ∧ ∀ n s w', I n s w' → step s w' fun s' w'' => ∃ n', n' < n ∧ I n' s' w''

def VLoop (l : List (Nat × Kd)) (ws : List Nat) (step : Env → World → (Env → World → Prop) → Prop) (ρ : Env) (w : World) : Prop :=
  getK l ρ fun s => LoopT (fun s w K => ∀ g : Env, step (mix ws (putK l s g) ρ) w fun ρ'' w'' => getK l ρ'' fun s' => K s' w'') s w

/-- The number of a code's first region: a loop's name. -/
def firstRegion : Code → Option Nat
  | .region id _ _ => some id
  | .seq a b | .cond _ a b => match firstRegion a with
    | some n => some n
    | none => firstRegion b
  | .block _ c | .loop c | .scope c => firstRegion c
  | _ => none

abbrev Ann := List (Nat × List (Nat × Kd))

def annOf (ann : Ann) (n : Option Nat) : List (Nat × Kd) := match ann with
  | [] => []
  | x :: l => match n with
    | some n => match Nat.beq n x.1 with
      | true => x.2
      | false => annOf l n
    | none => []

/-- The marks of ranges over functions, behind the temporaries. -/
def markOf : Value → Deferred
  | .int _ n => { target := .collected n.toNat, args := #[] }
  | _ => { target := .nil, args := #[] }
def dsOf : Value → List Deferred
  | .tuple vs => vs.toList.map markOf
  | _ => []
def mark (v : Value) (D : Nat) : Value := match v with
  | .tuple vs => .tuple ⟨.int .i64 (D : Int) :: vs.toList⟩
  | _ => .tuple #[.int .i64 (D : Int)]

/-- A frame that shows these values. -/
structure Shows (N : Nat) (a : Act) (ρ : Env) : Prop where
  size : a.tmps.size = N
  get : ∀ i, i < N → a.tmps.getD i undef = ρ i
  defers : a.defers = dsOf (ρ N)

/-! ### Ranges over functions -/
/-- What a loop's record bears. -/
structure LB where
  fn : FuncId
  tmps : Array Value
  ps : Array Tmp
  assign : Code
  body : Code
def LB.loop (X : LB) (D : Nat) (st : LoopState) (pe : Option Code) : Obj := .loop { state := st, pending := pe, fn := X.fn, tmps := X.tmps, params := X.ps, assign := X.assign, body := X.body, defers := D }

/-- How a round may end. -/
structure RPost where
  nrm : World → Prop
  ret : World → Prop
  exit : Nat → World → Prop

def rPost (Q : RPost) : Exit → Act → World → Prop
  | .normal, _, w => Q.nrm w
  | .ret, _, w => Q.ret w
  | .exit id, _, w => Q.exit id w
  | _, _, _ => False

/-- A round on these arguments comes to this. -/
def LB.runs (P : Program) (X : LB) (l : Nat) (args : List Value) (w : World) (Q : RPost) : Prop :=
  args.length = X.ps.size ∧
  X.assign.wpIn (Fr (some l)) 0 P (Exit.then (fun a w1 => ∃ w2, (Instr.beginRound l).run P w1 = .ok () w2 ∧ X.body.wpIn (Fr (some l)) 0 P (rPost Q) a w2) (fun _ _ _ => False))
    { tmps := (X.ps.zip args.toArray).foldl (fun tmps (t, a) => tmps.setIfInBounds t a) X.tmps, defers := [] } w

def Enters (X : LB) (l D : Nat) (w w1 : World) : Prop := w1 = (w.alloc (.deferred (some []))).alloc (X.loop D .ready none) ∧ D = w.heap.size ∧ l = w.heap.size + 1

def allLeaf (d : TypeDesc) (K : Value → Prop) : Prop := match d with
  | .bool => ∀ b, K (.bool b)
  | .int k => ∀ n, K (.int k n)
  | .string => ∀ s, K (.string s)
  | .pointer _ => ∀ a, K (.pointer a)
  | .slice _ => ∀ s : SV, K (.slice s.a s.len s.cap)
  | .map _ _ => ∀ r, K (.map r)
  | .func _ _ _ => ∀ x : FV, K (.func x.f x.a x.b)
  | _ => ∀ v, K v

mutual
def allCells (P : Program) : Nat → TypeId → (List Value → Prop) → Prop
  | 0, _, _ => True
  | n + 1, t, K => match P.underlying t with
    | some (.struct fs) => allFields P n fs.toList K
    | some (.array _ _) => ∀ cs : Array Value, K cs.toList
    | some d => allLeaf d fun v => K [v]
    | none => True
def allFields (P : Program) : Nat → List Field → (List Value → Prop) → Prop
  | 0, _, _ => True
  | _ + 1, [], K => K []
  | n + 1, f :: fs, K => allCells P n f.type fun a => allFields P n fs fun b => K (a ++ b)
end

def allTy (P : Program) (t : TypeId) (K : Value → Prop) : Prop := match P.underlying t with
  | some (.struct fs) => allFields P 40 fs.toList fun l => K (.agg l.toArray)
  | some (.array _ _) => ∀ cs : Array Value, K (.agg cs)
  | some d => allLeaf d K
  | none => True

theorem allLeaf_of {d : TypeDesc} {K : Value → Prop} (h : ∀ v, K v) : allLeaf d K := by
  unfold allLeaf
  split <;> intros <;> exact h _

mutual
theorem allCells_of {P : Program} : ∀ (n : Nat) (t : TypeId) (K : List Value → Prop), (∀ l, K l) → allCells P n t K
  | 0, _, _, _ => by simp [allCells]
  | n + 1, t, K, h => by
    unfold allCells
    split
    · exact allFields_of n _ K h
    · intro cs; exact h _
    · exact allLeaf_of fun v => h _
    · trivial
theorem allFields_of {P : Program} : ∀ (n : Nat) (fs : List Field) (K : List Value → Prop), (∀ l, K l) → allFields P n fs K
  | 0, _, _, _ => by simp [allFields]
  | _ + 1, [], K, h => by simp only [allFields]; exact h _
  | n + 1, f :: fs, K, h => by
    simp only [allFields]
    exact allCells_of n f.type _ fun a => allFields_of n fs _ fun b => h _
end

theorem allTy_of {P : Program} {t : TypeId} {K : Value → Prop} (h : ∀ v, K v) : allTy P t K := by
  unfold allTy
  split
  · exact allFields_of _ _ _ fun l => h _
  · intro cs; exact h _
  · exact allLeaf_of h
  · trivial

/-- The temporaries' types: what a loop's variables may be. -/
def allArgs (P : Program) (E : List (Nat × TypeId)) : List Nat → Env → (List Value → Env → Prop) → Prop
  | [], ρ, K => K [] ρ
  | p :: ps, ρ, K => match lookN E p with
    | some t => allTy P t fun v => allArgs P E ps (upd ρ p v) fun l ρ => K (v :: l) ρ
    | none => True

/-- The function that was ranged over has returned. -/
def leaveV (P : Program) (X : LB) (l D : Nat) (Qn Qr : World → Prop) (Qx : Nat → World → Prop) (w : World) : Prop :=
  ∃ st pe, w.heap[l]? = some (X.loop D st pe) ∧ st ≠ .busy ∧ (match pe with
    | none => Qn (w.putObj l (X.loop D .exhausted pe))
    | some .ret => Qr (w.putObj l (X.loop D .exhausted pe))
    | some (.exit id) => Qx id (w.putObj l (X.loop D .exhausted pe))
    | _ => False)

def rangeV (P : Program) (v : Value) (w : World) (H : LB → Nat → Prop) (Qn Qr : Nat → World → Prop) (Qx : Nat → Nat → World → Prop) : Prop := match v with
  | .func (.func gf) first lb => plainFunc P gf = true ∧ ∀ (X : LB) (l D : Nat) (w1 : World), Enters X l D w w1 → H X l →
      Calls P gf (first.toList ++ [Value.func (.yield l) #[] #[]] ++ lb.toList).toArray w1 fun e w3 => (∃ v, e = .returned v) ∧ leaveV P X l D (Qn D) (Qr D) (Qx D) w3
  | _ => False

/-- Does a code leave for outside? -/
def exitsOut : List Nat → Code → Bool
  | bs, .exit id => !memN bs id
  | bs, .block id c => exitsOut (id :: bs) c
  | bs, .seq a b => exitsOut bs a || exitsOut bs b
  | bs, .cond _ a b => exitsOut bs a || exitsOut bs b
  | bs, .loop c => exitsOut bs c
  | bs, .scope c => exitsOut bs c
  | bs, .rangeFunc _ _ a b => exitsOut bs a || exitsOut bs b
  | _, _ => false

/-- A block for deferred calls is empty, and is shut. -/
def shutV (D : Nat) (w : World) (K : World → Prop) : Prop := w.heap[D]? = some (.deferred (some [])) ∧ K (w.putObj D (.deferred none))

def postOf (N : Nat) (Q : Post) : Exit → Act → World → Prop
  | .normal, a, w => ∃ ρ, Shows N a ρ ∧ Q.nrm ρ w
  | .ret, a, w => ∃ ρ, Shows N a ρ ∧ Q.ret ρ w
  | .exit id, a, w => ∃ ρ, Shows N a ρ ∧ Q.exit id ρ w
  | _, _, _ => False

def vc (P : Program) (E : List (Nat × TypeId)) (N : Nat) (ann : Ann) : Code → Post → Env → World → Prop
  | .skip, Q, ρ, w => Q.nrm ρ w
  | .seq a b, Q, ρ, w => vc P E N ann a ⟨fun ρ w => vc P E N ann b Q ρ w, Q.ret, Q.exit⟩ ρ w
  | .cond c a b, Q, ρ, w => match ev ρ c with
    | .bool t => brc t (vc P E N ann a Q ρ w) (vc P E N ann b Q ρ w)
    | _ => False
  | .block id c, Q, ρ, w => vc P E N ann c ⟨Q.nrm, Q.ret, fun i ρ w => match Nat.beq i id with
    | true => Q.nrm ρ w
    | false => Q.exit i ρ w⟩ ρ w
  | .exit id, Q, ρ, w => Q.exit id ρ w
  | .ret, Q, ρ, w => Q.ret ρ w
  | .label _, Q, ρ, w => Q.nrm ρ w
  | .loop c, Q, ρ, w => VLoop (annOf ann (firstRegion c)) (writes c) (fun ρ w K => vc P E N ann c ⟨K, Q.ret, Q.exit⟩ ρ w) ρ w
  | .region _ ops false, Q, ρ, w => vcOps P E ops.toList ops.toList ρ w Q.nrm
  | .region _ ops true, Q, ρ, w => ∃ S : World → Prop, S { w with drawn := w.drawn + 1 } ∧ vcDraw P E ops.toList S [] ops.toList.length (Array.replicate ops.toList.length false) ρ { w with drawn := w.drawn + 1 } Q.nrm
  | .rangeFunc f ps asg b, Q, ρ, w => rangeV P (ev ρ f) w
      (fun X l => allArgs P E ps.toList (upd ρ N undef) fun args ρ' => ∀ (w : World) (R : RPost), vc P E N ann asg ⟨fun ρ w1 => ∃ w2, (Instr.beginRound l).run P w1 = .ok () w2 ∧ vc P E N ann b ⟨fun _ w => R.nrm w, fun _ w => R.ret w, fun i _ w => R.exit i w⟩ ρ w2, fun _ _ => False, fun _ _ _ => False⟩ ρ' w → X.runs P l args w R)
      (fun D w => Q.nrm (upd ρ N (mark (ρ N) D)) w) (fun D w => Q.ret (upd ρ N (mark (ρ N) D)) w) (match exitsOut [] b with
        | true => fun D i w => Q.exit i (upd ρ N (mark (ρ N) D)) w
        | false => fun _ _ _ => False)
  | _, _, _, _ => False

end Go.Proofs.Ytonjaaljnjjjcaa

/- 'vc' is sound: what it reads as logic, the model's code does. Conditions: the temporaries named lie in the frame. -/
set_option linter.unusedVariables false
set_option linter.unusedSimpArgs false
namespace Go.Proofs.Ytonjaaljnjjjcaa
open Go

theorem run_sizeOf? {P : Program} {t : TypeId} {n : Nat} (h : sizeOf? P t = some n) (w : World) : (sizeOf t).run P w = .ok n w := by
  unfold sizeOf? at h
  cases hi : P.info? t with
  | none => simp [hi] at h
  | some i =>
    simp [hi] at h
    simp [sizeOf, typeInfo, hi, h]

/-- What is asked of a reading's meaning. -/
structure Good (P : Program) (R : Rd) (G : Sem Next → Value → Prop) : Prop where
  rd : ∀ (m : Sem Value) v, R m v → G (do pure (.value (← m))) v
  pure : ∀ m v, (∀ w, m.run P w = .ok (.value v) w) → G m v

theorem equal_bool {P : Program} {t : TypeId} (hu : P.underlying t = some .bool) (a b : Bool) (w : World) : (Op.equal t (.bool a) (.bool b)).run P w = .ok (a == b) w := by
  have h : ∀ d, (Op.equalIn (d + 1) t (.bool a) (.bool b)).run P w = .ok (a == b) w := fun d => by simp [Op.equalIn, run_underlying hu]
  exact h 9999
theorem equal_ptr {P : Program} {t e : TypeId} (hu : P.underlying t = some (.pointer e)) (p : Option Addr) (w : World) : (Op.equal t (.pointer p) (.pointer none)).run P w = .ok p.isNone w := by
  have h : ∀ d, (Op.equalIn (d + 1) t (.pointer p) (.pointer none)).run P w = .ok p.isNone w := fun d => by cases p <;> simp [Op.equalIn, run_underlying hu]
  exact h 9999

theorem binV_sound {P : Program} {op : BinOp} {t : TypeId} {xo yo : Operand} {x y : Value} {E : Prop} {K : Value → Prop} (h : binV P op t x y E K) :
    E ∨ ∃ v, (∀ w, (do eqGuard op t xo yo x y; binOp op t x y : Sem Value).run P w = .ok v w) ∧ K v := by
  unfold binV at h
  split at h
  case h_29 => exact .inl h
  case h_1 =>
    have h1 := Int.not_lt.2 h.1
    refine .inr ⟨_, ?_, h.2⟩
    intro w
    simp [eqGuard, binOp, Op.shift, h1]
  case h_2 =>
    have h1 := Int.not_lt.2 h.1
    refine .inr ⟨_, ?_, h.2⟩
    intro w
    simp [eqGuard, binOp, Op.shift, h1]
  case h_18 =>
    have h1 := h.1
    refine .inr ⟨_, ?_, h.2⟩
    intro w
    simp only [eqGuard, binOp, Op.stringOp]
    rw [if_neg (Int.not_lt.2 h1)]
    simp
  case h_25 =>
    split at h
    · rename_i hu
      refine .inr ⟨_, ?_, h⟩
      intro w
      simp [eqGuard, binOp, equal_bool hu]
    · exact .inl h
  case h_26 =>
    split at h
    · rename_i hu
      refine .inr ⟨_, ?_, h⟩
      intro w
      simp [eqGuard, binOp, equal_bool hu]
    · exact .inl h
  case h_27 =>
    split at h
    · rename_i p _ hu
      refine .inr ⟨_, ?_, h⟩
      intro w
      simp [eqGuard, binOp, equal_ptr hu]
    · exact .inl h
  case h_28 =>
    split at h
    · rename_i p _ hu
      refine .inr ⟨_, ?_, h⟩
      intro w
      simp [eqGuard, binOp, equal_ptr hu]
    · exact .inl h
  all_goals first
    | (obtain ⟨rfl, h'⟩ := kEq_of h
       refine .inr ⟨_, ?_, h'⟩
       intro w
       simp [eqGuard, binOp, Op.intArith, Op.intCmp, Op.intBits]
       done)
    | (obtain ⟨rfl, h0, h'⟩ := kEq_of h
       refine .inr ⟨_, ?_, h'⟩
       intro w
       simp [eqGuard, binOp, Op.intDiv, h0]
       done)
    | (refine .inr ⟨_, ?_, h⟩
       intro w
       simp [eqGuard, binOp, Op.stringOp]
       done)

theorem fieldAt_run {P : Program} {s : TypeId} {f off : Nat} (h : fieldOff P s f = some off) (a : Addr) (w : World) :
    (Instr.fieldAt s (.pointer (some a)) f).run P w = .ok (.pointer (some (a.add off))) w := by
  unfold fieldOff at h
  split at h
  · rename_i fs hu
    split at h
    · rename_i x hx
      split at h
      · rename_i i hi
        split at h
        · cases h
        · rename_i n hn
          injection h with h
          subst h
          have hx' : fs[f]? = some x := by simpa using hx
          simp [Instr.fieldAt, run_underlying hu, hx', Instr.sureAddr, fieldPlace, sizeOf, typeInfo, hi, hn]
      · cases h
    · cases h
  · cases h

theorem sliceBound_run {P : Program} {k : IntKind} {i : Int} {y : Nat} {c : BoundsCode} (h : 0 ≤ i ∧ i ≤ (y : Int)) (w : World) :
    (Instr.sliceBound (.int k i) y c).run P w = .ok i.toNat w := by
  simp [Instr.sliceBound, asIntOf, h]

theorem indexAt_slice {P : Program} {t e : TypeId} {size : Nat} (hu : P.underlying t = some (.slice e)) (hs : sizeOf? P e = some size) {a : Addr} {len cap : Nat} {k : IntKind} {i : Int} (h : 0 ≤ i ∧ i < (len : Int)) (w : World) :
    (Instr.indexAt t (.slice (some a) len cap) (.int k i)).run P w = .ok (.pointer (some (a.add (i.toNat * size)))) w := by
  have := run_sizeOf? hs w
  simp [Instr.indexAt, asIntOf, run_underlying hu, h, this]

theorem indexAt_arr {P : Program} {t e : TypeId} {n size : Nat} (hu : P.underlying t = some (.array n e)) (hs : sizeOf? P e = some size) {a : Addr} {k : IntKind} {i : Int} (h : 0 ≤ i ∧ i < (n : Int)) (w : World) :
    (Instr.indexAt t (.pointer (some a)) (.int k i)).run P w = .ok (.pointer (some (a.add (i.toNat * size)))) w := by
  have := run_sizeOf? hs w
  simp [Instr.indexAt, asIntOf, run_underlying hu, h, this, Instr.sureAddr]

theorem boundK_some {x : Option Value} {d t : Nat} {K : Nat → Prop} (h : boundK x d t K) :
    (x = none ∧ K d) ∨ ∃ k i, x = some (.int k i) ∧ (0 ≤ i ∧ i ≤ (t : Int)) ∧ K i.toNat := by
  unfold boundK at h
  split at h
  · exact .inl ⟨rfl, h⟩
  · exact .inr ⟨_, _, rfl, h⟩
  · exact h.elim

theorem sliceBounds2 {P : Program} {b : Bool} {len cap : Nat} {hi lo : Option Value} {K : Nat → Nat → Prop}
    (h : boundK hi len cap fun h => boundK lo 0 h fun l => K h l) :
    ∃ l h, (∀ w, (Instr.sliceBounds b len cap lo hi none).run P w = .ok (l, h, cap) w) ∧ K h l := by
  rcases boundK_some h with ⟨rfl, h1⟩ | ⟨k, i, rfl, hb, h1⟩
  · rcases boundK_some h1 with ⟨rfl, h2⟩ | ⟨k', i', rfl, hb', h2⟩
    · exact ⟨_, _, fun w => by simp [Instr.sliceBounds], h2⟩
    · exact ⟨_, _, fun w => by simp [Instr.sliceBounds, sliceBound_run hb'], h2⟩
  · rcases boundK_some h1 with ⟨rfl, h2⟩ | ⟨k', i', rfl, hb', h2⟩
    · exact ⟨_, _, fun w => by simp [Instr.sliceBounds, sliceBound_run hb], h2⟩
    · exact ⟨_, _, fun w => by simp [Instr.sliceBounds, sliceBound_run hb, sliceBound_run hb'], h2⟩

theorem sliceBounds3 {P : Program} {len cap : Nat} {m hi : Value} {lo : Option Value} {K : Nat → Nat → Nat → Prop}
    (h : boundK (some m) cap cap fun m => boundK (some hi) len m fun h => boundK lo 0 h fun l => K m h l) :
    ∃ m' l h, (∀ w, (Instr.sliceBounds true len cap lo (some hi) (some m)).run P w = .ok (l, h, m') w) ∧ K m' h l := by
  rcases boundK_some h with ⟨h0, _⟩ | ⟨km, im, hm, hbm, h1⟩
  · cases h0
  injection hm with hm
  subst hm
  rcases boundK_some h1 with ⟨h0, _⟩ | ⟨k, i, hm, hb, h2⟩
  · cases h0
  injection hm with hm
  subst hm
  rcases boundK_some h2 with ⟨rfl, h3⟩ | ⟨k', i', rfl, hb', h3⟩
  · exact ⟨_, _, _, fun w => by simp [Instr.sliceBounds, sliceBound_run hbm, sliceBound_run hb], h3⟩
  · exact ⟨_, _, _, fun w => by simp [Instr.sliceBounds, sliceBound_run hbm, sliceBound_run hb, sliceBound_run hb'], h3⟩

theorem minMax_sound {P : Program} {mx : Bool} {l : List Value} {E : Prop} {K : Value → Prop} (h : minMaxV mx l E K) :
    E ∨ ∃ v, (∀ ats ty w, (if mx then Builtin.max_ ats ty l.toArray else Builtin.min_ ats ty l.toArray : Sem Value).run P w = .ok v w) ∧ K v := by
  unfold minMaxV at h
  split at h
  · obtain ⟨rfl, h'⟩ := kEq_of h
    refine .inr ⟨_, ?_, h'⟩
    intro ats ty w
    cases mx <;> simp [Builtin.max_, Builtin.min_, Builtin.max2, Builtin.min2]
  · exact .inl h

theorem optK_of {α : Type} {p : Option α} {K : α → Prop} (h : optK p K) : ∃ a, p = some a ∧ K a := by
  cases p with
  | none => exact h.elim
  | some a => exact ⟨a, rfl, h⟩

theorem brc_of {t : Bool} {A B : Prop} (h : brc t A B) : (t = true ∧ A) ∨ (t = false ∧ B) := by
  cases t
  · exact .inr ⟨rfl, h⟩
  · exact .inl ⟨rfl, h⟩

theorem evs_arr (ρ : Env) (xs : Array Operand) : (evs ρ xs).toArray = xs.map (ev ρ) := by
  apply Array.ext'
  simp [evs]

theorem evp_arr (ρ : Env) (xs : Array (Nat × Operand)) : (evp ρ xs).toArray = xs.map fun (i, x) => (i, ev ρ x) := by
  apply Array.ext'
  simp [evp]

theorem putL_fold (vs : List Value) : ∀ (cs : List Value) (off k : Nat), (vs.zipIdx k).foldl (fun (cs : Array Value) (p : Value × Nat) => cs.setIfInBounds (off + p.2) p.1) cs.toArray = (putL cs (off + k) vs).toArray := by
  induction vs with
  | nil => intro cs off k; rfl
  | cons v vs ih =>
    intro cs off k
    simp only [List.zipIdx_cons, List.foldl_cons, putL]
    have := ih (cs.set (off + k) v) off (k + 1)
    simpa [Nat.add_assoc] using this

theorem fillL_sound {place : Nat → Option (Nat × Nat)} : ∀ (parts : List (Nat × Value)) (cells l : List Value), fillL place cells parts = some l → Instr.fill place cells.toArray parts = some l.toArray
  | [], cells, l, h => by
    simp only [fillL, Option.some.injEq] at h
    subst h
    rfl
  | p :: rest, cells, l, h => by
    simp only [fillL] at h
    split at h
    · cases h
    · rename_i q hq
      split at h
      · rename_i hb
        simp only [Bool.and_eq_true] at hb
        obtain ⟨h1, h2⟩ := hb
        have h1 := Nat.eq_of_beq_eq_true h1
        have h2 := Nat.le_of_ble_eq_true h2
        obtain ⟨i, v⟩ := p
        obtain ⟨off, n⟩ := q
        simp only at hq h1 h2 h
        have hs : v.cells.size = n := by simpa using h1
        have ho : ¬ (off + v.cells.size > cells.toArray.size) := by simp at h2 ⊢; omega
        have hf := putL_fold v.cells.toList cells off 0
        have hz : (v.cells.zipIdx.foldl (fun (cs : Array Value) (x : Value × Nat) => cs.setIfInBounds (off + x.2) x.1) cells.toArray) = (putL cells off v.cells.toList).toArray := by
          rw [← Array.foldl_toList, Array.toList_zipIdx]
          simpa using hf
        unfold Instr.fill
        simp only [hq]
        rw [if_neg (by simp only [hs, ne_eq, not_true_eq_false, Bool.or_eq_true, decide_eq_true_eq, false_or]; rw [← hs]; exact ho)]
        exact (congrArg (fun z => Instr.fill place z rest) hz).trans (fillL_sound rest _ l h)
      · cases h

theorem sizes_run {P : Program} {w : World} : ∀ (fs : List Field), sizesOk P fs = true →
    ∃ l, (fs.mapM (m := Sem) fun f => do pure (f.offset, ← sizeOf f.type)).run P w = .ok l w ∧ ∀ i, l[i]? = placeL P fs i
  | [], _ => ⟨[], rfl, fun i => by simp [placeL]⟩
  | f :: fs, h => by
    simp only [sizesOk] at h
    split at h
    · rename_i n hn
      obtain ⟨l, hl, hp⟩ := sizes_run (w := w) fs h
      refine ⟨(f.offset, n) :: l, ?_, fun i => ?_⟩
      · simp only [List.mapM_cons, Sem.run_bind, run_sizeOf? hn, Result.andThen_ok, Sem.run_pure, hl]
      · cases i with
        | zero => simp [placeL, hn]
        | succ i => simpa [placeL] using hp i
    · cases h

theorem buildV_sound {P : Program} {t : TypeId} {parts : List (Nat × Value)} {cs : List Value} (h : buildV P t parts = some cs) (w : World) :
    (Instr.build t parts.toArray).run P w = .ok (.agg cs.toArray) w := by
  unfold buildV at h
  split at h
  · rename_i fs i hu hi
    split at h
    · rename_i z hz hs
      obtain ⟨l, hl, hp⟩ := sizes_run (P := P) (w := w) fs.toList hs
      have hf := fillL_sound _ _ _ h
      have he : (fun i => l[i]?) = placeL P fs.toList := funext hp
      simp only [Instr.build, Sem.run_bind, zeroValue, typeInfo, run_program, Result.andThen_ok, hi, hz, Sem.run_pure, run_underlying hu, Array.mapM_eq_mapM_toList, Sem.run_map]
      have hl' : Sem.run P (fs.toList.mapM fun f => do pure (f.offset, ← sizeOf f.type)) w = .ok l w := hl
      erw [hl']
      simp only [Result.andThen_ok, List.getElem?_toArray]
      rw [he]
      have hf' : Instr.fill (placeL P fs.toList) z.cells parts = some cs.toArray := by simpa using hf
      simp only [hf', Sem.run_pure]
    · cases h
  · cases h

theorem rdOp_sound {P : Program} {E : List (Nat × TypeId)} {R : Rd} {G : Sem Next → Value → Prop} (hG : Good P R G) {ρ : Env} {o : Oper} {K : Value → Prop}
    (h : rdOp P E R ρ o.op o.type K) : ∃ v, G (execOp (ev ρ) o) v ∧ K v := by
  obtain ⟨dst, op, ty, pos, after, guard⟩ := o
  dsimp only at h
  have fall : ∀ (t : TypeId) (m : Sem Value), execOp (ev ρ) ⟨dst, op, ty, pos, after, guard⟩ = (do pure (.value (← m))) → (exTy P t fun v => R m v ∧ K v) → ∃ v, G (execOp (ev ρ) ⟨dst, op, ty, pos, after, guard⟩) v ∧ K v := fun t m he hx => by
    obtain ⟨v, hr, hk⟩ := exTy_ex hx
    exact ⟨v, he ▸ hG.rd m v hr, hk⟩
  have pur : ∀ (m : Sem Value) (v : Value), execOp (ev ρ) ⟨dst, op, ty, pos, after, guard⟩ = (do pure (.value (← m))) → (∀ w, m.run P w = .ok v w) → K v → ∃ v, G (execOp (ev ρ) ⟨dst, op, ty, pos, after, guard⟩) v ∧ K v := fun m v he hm hk =>
    ⟨v, hG.pure _ v (fun w => by rw [he]; simp [hm w]), hk⟩
  cases op with
  | move x => exact ⟨_, hG.pure _ _ (fun w => rfl), h⟩
  | assign x => exact ⟨_, hG.pure _ _ (fun w => rfl), h⟩
  | pick c a b =>
    simp only [rdOp] at h
    split at h
    · rename_i t ht
      rcases brc_of h with ⟨rfl, h⟩ | ⟨rfl, h⟩
      · exact ⟨_, hG.pure _ _ (fun w => by simp [execOp, ht, asBool]), h⟩
      · exact ⟨_, hG.pure _ _ (fun w => by simp [execOp, ht, asBool]), h⟩
    · exact h.elim
  | load t x =>
    simp only [rdOp] at h
    split at h
    · rename_i a ha
      exact fall t (loadVar t a) (by simp [execOp, ha, Instr.loadAt, Instr.sureAddr]) h
    · exact h.elim
  | nilCheck x =>
    simp only [rdOp] at h
    split at h
    · rename_i p hp
      obtain ⟨a, rfl, hk⟩ := optK_of h
      exact ⟨_, hG.pure _ _ (fun w => by simp [execOp, hp]), hk⟩
    · rename_i f a b hp
      exact ⟨_, hG.pure _ _ (fun w => by simp [execOp, hp]), h⟩
    · exact h.elim
  | binOp o t x y yt =>
    simp only [rdOp] at h
    rcases binV_sound (xo := x) (yo := y) h with h | ⟨v, hv, hk⟩
    · exact fall ty _ rfl h
    · exact pur _ v rfl hv hk
  | unOp o t x =>
    simp only [rdOp] at h
    split at h
    · rename_i b hb
      exact pur _ _ rfl (fun w => by rw [hb]; rfl) h
    · rename_i k n hb
      exact pur _ _ rfl (fun w => by rw [hb]; rfl) h
    · rename_i k n hb
      exact pur _ _ rfl (fun w => by rw [hb]; rfl) h
    · exact h.elim
  | fieldAddr s x f =>
    simp only [rdOp] at h
    split at h
    · rename_i a off ha hf
      exact pur _ _ rfl (fun w => by rw [ha]; exact fieldAt_run hf a w) h
    · exact h.elim
  | indexAddr t x i =>
    simp only [rdOp] at h
    split at h
    · rename_i e a len c k n hu hx hi
      split at h
      · rename_i size hs
        obtain ⟨hb, h⟩ := h
        obtain ⟨a, rfl, hk⟩ := optK_of h
        exact pur _ _ rfl (fun w => by rw [hx, hi]; exact indexAt_slice hu hs hb w) hk
      · exact h.elim
    · rename_i len e a k n hu hx hi
      split at h
      · rename_i size hs
        obtain ⟨hb, hk⟩ := h
        exact pur _ _ rfl (fun w => by rw [hx, hi]; exact indexAt_arr hu hs hb w) hk
      · exact h.elim
    · exact h.elim
  | extract x i =>
    simp only [rdOp] at h
    split at h
    · rename_i vs hvs
      split at h
      · rename_i v hv
        have hv' : vs[i]? = some v := by simpa using hv
        exact pur _ _ rfl (fun w => by rw [hvs]; simp [Instr.extract, hv']) h
      · exact h.elim
    · exact h.elim
  | makeFunc f a b =>
    simp only [rdOp, evs_arr] at h
    exact pur _ _ rfl (fun w => rfl) h
  | slice t x lo hi mx =>
    simp only [rdOp] at h
    split at h
    · rename_i e a len cap hu hx
      split at h
      · rename_i size hs
        obtain ⟨l, hh, hr, hk⟩ := sliceBounds2 (P := P) (b := true) h
        refine pur _ _ rfl (fun w => ?_) hk
        rw [hx]
        simp [Instr.sliceAt, Instr.slice, run_underlying hu, hr, run_sizeOf? hs, cutAt]
      · rename_i size m hs
        split at h
        · obtain ⟨m', l, hh, hr, hk⟩ := sliceBounds3 (P := P) h
          refine pur _ _ rfl (fun w => ?_) hk
          rw [hx]
          simp [Instr.sliceAt, Instr.slice, run_underlying hu, hr, run_sizeOf? hs, cutAt]
        · exact h.elim
      · exact h.elim
    · rename_i s hu hx
      split at h
      · obtain ⟨l, hh, hr, hk⟩ := sliceBounds2 (P := P) (b := false) h
        refine pur _ _ rfl (fun w => ?_) hk
        rw [hx]
        simp [Instr.sliceAt, Instr.slice, run_underlying hu, hr]
      · exact h.elim
    · exact h.elim
  | convert s d x =>
    simp only [rdOp] at h
    split at h
    · rename_i k0 k k1 n hs hd hx
      exact pur _ _ rfl (fun w => by rw [hx]; simp [convert, run_underlying hs, run_underlying hd, Conv.intToInt]) h
    · rename_i z hs hd hx
      exact pur _ _ rfl (fun w => by rw [hx]; simp [convert, run_underlying hs, run_underlying hd]) h
    · exact fall _ _ rfl h
  | lookup t x i ok =>
    simp only [rdOp] at h
    cases ok with
    | false => exact fall _ _ rfl h
    | true =>
      obtain ⟨v, b, hr, hk⟩ := exTy_ex h
      exact ⟨_, hG.rd (Instr.lookup t (ev ρ x) (ev ρ i) true) _ hr, hk⟩
  | entry x =>
    simp only [rdOp] at h
    split at h
    · split at h
      · split at h
        · obtain ⟨u, h⟩ := exTy_ex h
          obtain ⟨v, hr, hk⟩ := exTy_ex h
          exact ⟨_, hG.rd (Instr.entry _) _ hr, hk⟩
        · exact h.elim
      · exact h.elim
    · exact h.elim
  | field t x f => exact fall _ _ rfl h
  | index t x i => exact fall _ _ rfl h
  | build t parts =>
    simp only [rdOp] at h
    have he : execOp (ev ρ) ⟨dst, .build t parts, ty, pos, after, guard⟩ = (do pure (.value (← Instr.build t (evp ρ parts).toArray))) := by rw [evp_arr]; rfl
    split at h
    · rename_i cs hcs
      exact pur _ _ he (buildV_sound hcs) h
    · exact fall _ _ he h
  | makeInterface t x => exact fall _ _ rfl h
  | typeAssert x a b ok =>
    cases ok with
    | false => exact fall _ _ rfl h
    | true => exact h.elim
  | call c =>
    obtain ⟨callee, args, ats⟩ := c
    cases callee with
    | builtin b =>
      cases b with
      | len =>
        simp only [rdOp] at h
        split at h
        · rename_i a n c t hvs hts
          split at h
          · rename_i e hu
            refine pur (Builtin.len_ ats ty (args.map (ev ρ))) _ rfl (fun w => ?_) h
            rw [← evs_arr, hvs]
            have h0 : ats = #[t] := by rw [← Array.toArray_toList (xs := ats), hts]
            rw [h0]
            simp [Builtin.len_, run_underlying hu, goInt]
          · exact h.elim
        · rename_i s t hvs hts
          split at h
          · rename_i hu
            refine pur (Builtin.len_ ats ty (args.map (ev ρ))) _ rfl (fun w => ?_) h
            rw [← evs_arr, hvs]
            have h0 : ats = #[t] := by rw [← Array.toArray_toList (xs := ats), hts]
            rw [h0]
            simp [Builtin.len_, run_underlying hu, goInt]
          · exact h.elim
        · rw [evs_arr] at h; exact fall _ _ rfl h
      | cap => simp only [rdOp, evs_arr] at h; exact fall _ _ rfl h
      | min =>
        simp only [rdOp] at h
        rcases minMax_sound (P := P) h with h | ⟨v, hv, hk⟩
        · rw [evs_arr] at h; exact fall _ _ rfl h
        · exact pur (Builtin.min_ ats ty (args.map (ev ρ))) v rfl (fun w => by simpa [evs_arr] using hv ats ty w) hk
      | max =>
        simp only [rdOp] at h
        rcases minMax_sound (P := P) h with h | ⟨v, hv, hk⟩
        · rw [evs_arr] at h; exact fall _ _ rfl h
        · exact pur (Builtin.max_ ats ty (args.map (ev ρ))) v rfl (fun w => by simpa [evs_arr] using hv ats ty w) hk
      | _ => exact h.elim
    | _ => exact h.elim
  | _ => exact h.elim

end Go.Proofs.Ytonjaaljnjjjcaa

/- 'vc' is sound: the operations that write or call, regions, and whole codes. Conditions: asg in V2. -/
set_option linter.unusedVariables false
set_option linter.unusedSimpArgs false
namespace Go.Proofs.Ytonjaaljnjjjcaa
open Go

theorem Does_ok {P : Program} {m : Sem Value} {w w' : World} {v : Value} {K : Value → World → Prop} (h : m.run P w = .ok v w') (hk : K v w') : Does P (do pure (.value (← m))) w K := by
  unfold Does
  simp [h, hk]

theorem Does_unit {P : Program} {m : Sem Unit} {w w' : World} {K : Value → World → Prop} (h : m.run P w = .ok () w') (hk : K undef w') : Does P (do m; pure .skip) w K := by
  unfold Does
  simp [h, hk]

theorem Does_mono {P : Program} {m : Sem Next} {w : World} {K K' : Value → World → Prop} (hm : ∀ v w, K v w → K' v w) (h : Does P m w K) : Does P m w K' := by
  unfold Does at *
  split at h
  · exact hm _ _ h
  · exact hm _ _ h
  · exact h.mono fun e w'' ⟨v, he, hk⟩ => ⟨v, he, hm _ _ hk⟩
  · exact h.mono fun e w'' ⟨v, he, hk⟩ => ⟨v, he, hm _ _ hk⟩
  · exact h

theorem callFunc_plain {P : Program} {f : FuncId} (h : plainFunc P f = true) (args : Array Value) (w : World) : (callFunc f args).run P w = .ok (.enter f args) w := by
  unfold plainFunc at h
  split at h
  · rename_i fn hf
    simp only [Bool.and_eq_true, Bool.not_eq_true'] at h
    obtain ⟨h1, h2⟩ := h
    have h4 : ¬ fn.body = none := by cases hb : fn.body <;> simp_all
    have h5 : ¬ fn.name = "runtime.NumGoroutine" := by simpa using h2
    simp [callFunc, hf, h4, h5]
  · cases h

theorem Does_call {P : Program} {f : FuncId} (hp : plainFunc P f = true) {args : Array Value} {w : World} {K : Value → World → Prop}
    (h : Calls P f args w fun e w' => ∃ v, e = .returned v ∧ K v w') : Does P (callFunc f args) w K := by
  unfold Does
  rw [callFunc_plain hp]
  exact h

theorem efOp_sound {P : Program} {ρ : Env} {o : Oper} {w : World} {K : Value → World → Prop} (h : efOp P ρ o.op o.type w K) : Does P (execOp (ev ρ) o) w K := by
  obtain ⟨dst, op, ty, pos, after, guard⟩ := o
  dsimp only at h
  cases op with
  | alloc t => obtain ⟨a, w', hr, hk⟩ := h; exact Does_ok hr hk
  | box t x => obtain ⟨a, w', hr, hk⟩ := h; exact Does_ok hr hk
  | buildSlice t n parts =>
    simp only [efOp, evp_arr] at h
    obtain ⟨a, w', hr, hk⟩ := h
    exact Does_ok hr hk
  | store t a x => obtain ⟨w', hr, hk⟩ := h; exact Does_unit hr hk
  | mapUpdate t m k x => obtain ⟨w', hr, hk⟩ := h; exact Does_unit hr hk
  | insert t m k x => obtain ⟨w', hr, hk⟩ := h; exact Does_unit hr hk
  | makeMap t r => obtain ⟨a, w', hr, hk⟩ := h; exact Does_ok hr hk
  | makeSlice t l c => obtain ⟨a, w', hr, hk⟩ := h; exact Does_ok hr hk
  | convert s d x => obtain ⟨a, w', hr, hk⟩ := h; exact Does_ok hr hk
  | range t x => obtain ⟨a, w', hr, hk⟩ := h; exact Does_ok hr hk
  | next it s =>
    simp only [efOp] at h
    cases s with
    | true => exact h.elim
    | false =>
      simp only [NextM] at h
      split at h
      · rename_i w' hr
        exact Does_ok hr h
      · rename_i k v w' hr
        exact Does_ok hr h
      · exact h.elim
  | call c =>
    obtain ⟨callee, args, ats⟩ := c
    cases callee with
    | builtin b =>
      cases b with
      | append => simp only [efOp, evs_arr] at h; obtain ⟨a, w', hr, hk⟩ := h; exact Does_ok (m := Builtin.append_ ats ty (args.map (ev ρ))) hr hk
      | copy => simp only [efOp, evs_arr] at h; obtain ⟨a, w', hr, hk⟩ := h; exact Does_ok (m := Builtin.copy_ ats ty (args.map (ev ρ))) hr hk
      | delete => simp only [efOp, evs_arr] at h; obtain ⟨w', hr, hk⟩ := h; exact Does_ok (m := Builtin.delete_ ats ty (args.map (ev ρ))) hr hk
      | _ => exact h.elim
    | value f =>
      have hx : ∀ g fst cap, ev ρ f = .func (.func g) fst cap → execOp (ev ρ) ⟨dst, .call ⟨.value f, args, ats⟩, ty, pos, after, guard⟩ = callFunc g (fst.toList ++ evs ρ args ++ cap.toList).toArray := by
        intro g fst cap hg
        have he : (fst.toList ++ evs ρ args ++ cap.toList).toArray = (fst ++ args.map (ev ρ)) ++ cap := by
          rw [← evs_arr]
          apply Array.ext'
          simp
        rw [he]
        simp only [execOp, resolve, hg, Deferred.ofValue, pure_bind, invoke]
      have hV : callV P (ev ρ f) (evs ρ args) w (fun e w' => exTy P ty fun v => e = .returned v ∧ K v w') → Does P (execOp (ev ρ) ⟨dst, .call ⟨.value f, args, ats⟩, ty, pos, after, guard⟩) w K := by
        intro h
        unfold callV at h
        split at h
        · rename_i g fst cap hg
          rw [hx g fst cap hg]
          exact Does_call h.1 (h.2.mono fun e w' hk => let ⟨v, he, hk⟩ := exTy_ex hk; ⟨v, he, hk⟩)
        · rename_i l fst cap hg
          have he : (fst.toList ++ evs ρ args).toArray = fst ++ args.map (ev ρ) := by
            rw [← evs_arr]
            apply Array.ext'
            simp
          have hx' : execOp (ev ρ) ⟨dst, .call ⟨.value f, args, ats⟩, ty, pos, after, guard⟩ = Instr.yield l (fst.toList ++ evs ρ args).toArray := by
            rw [he]
            simp only [execOp, resolve, hg, Deferred.ofValue, pure_bind, invoke]
          obtain ⟨f', tmps, asg, b, w', hr, h⟩ := h
          rw [hx']
          unfold Does
          rw [hr]
          exact h.mono fun e w' hk => let ⟨v, he, hk⟩ := exTy_ex hk; ⟨v, he, hk⟩
        · exact h.elim
      cases f with
      | func g =>
        have h0 := hx g #[] #[] rfl
        rw [h0]
        simp only [efOp] at h
        have he : ((#[] : Array Value).toList ++ evs ρ args ++ (#[] : Array Value).toList).toArray = (evs ρ args).toArray := by simp
        rw [he]
        split at h
        · rename_i hp
          exact Does_call hp (h.mono fun e w' hk => let ⟨v, he, hk⟩ := exRes_ex hk; ⟨v, he, hk⟩)
        · exact h
      | tmp t => exact hV h
      | const v => exact hV h
      | global g => exact hV h
    | _ => exact h.elim
  | _ => exact h.elim

/-! ### Frames -/
def operandOk (N : Nat) : Operand → Bool
  | .tmp t => Nat.blt t N
  | _ => true

def notSelect : Op → Bool
  | .select .. => false
  | .defer .. => false
  | _ => true

def operOk (N : Nat) (o : Oper) : Bool :=
  (match o.dst with
   | some d => Nat.blt d N
   | none => true) && (o.op.operands.toList.all (operandOk N)) && notSelect o.op

def codeOk (N : Nat) : Code → Bool
  | .region _ ops _ => ops.toList.all (operOk N)
  | .seq a b => codeOk N a && codeOk N b
  | .cond c a b => operandOk N c && codeOk N a && codeOk N b
  | .block _ c | .loop c | .scope c => codeOk N c
  | _ => true

theorem Shows.ev {N : Nat} {a : Act} {ρ : Env} (h : Shows N a ρ) {x : Operand} (hx : operandOk N x = true) : a.eval x = ev ρ x := by
  cases x with
  | tmp t => exact h.get t ((Nat.blt_eq ▸ hx : t < N))
  | _ => rfl

theorem upd_same (ρ : Env) (d : Nat) (v : Value) : upd ρ d v d = v := by simp [upd]
theorem upd_other {ρ : Env} {d i : Nat} {v : Value} (h : i ≠ d) : upd ρ d v i = ρ i := by
  unfold upd
  split
  · rename_i hb; exact absurd (Nat.eq_of_beq_eq_true hb) h
  · rfl

theorem Shows.put {N : Nat} {a : Act} {ρ : Env} (h : Shows N a ρ) {d : Option Nat} (hd : ∀ x, d = some x → x < N) (v : Value) : Shows N (a.put d v) (updO ρ d v) := by
  cases d with
  | none => exact h
  | some d =>
    have hd' := hd d rfl
    refine ⟨by simp [Act.put, h.size], fun i hi => ?_, by rw [updO, upd_other (Nat.ne_of_gt hd')]; exact h.defers⟩
    by_cases e : i = d
    · subst e
      simp [Act.put, updO, upd_same, h.size, hi]
    · rw [updO, upd_other e, ← h.get i hi]
      simp [Act.put, Array.getElem?_setIfInBounds_ne (Ne.symm e)]

theorem Shows.exec {N : Nat} {a : Act} {ρ : Env} (h : Shows N a ρ) {o : Oper} (ho : operOk N o = true) : execOp a.eval o = execOp (Go.Proofs.Ytonjaaljnjjjcaa.ev ρ) o := by
  simp only [operOk, Bool.and_eq_true] at ho
  obtain ⟨⟨_, h2⟩, h3⟩ := ho
  refine execOp_congr o (fun cs b e => by rw [e] at h3; cases h3) fun x hx => h.ev ?_
  exact List.all_eq_true.1 h2 x (by simpa using hx)

theorem operOk_dst {N : Nat} {o : Oper} (ho : operOk N o = true) : ∀ x, o.dst = some x → x < N := by
  intro x hx
  simp only [operOk, Bool.and_eq_true, hx] at ho
  exact (Nat.blt_eq ▸ ho.1.1 : x < N)

theorem operOk_defer {N : Nat} {o : Oper} (ho : operOk N o = true) : ∀ c, o.op ≠ .defer c := by
  intro c e
  simp only [operOk, Bool.and_eq_true, e, notSelect] at ho
  exact absurd ho.2 (by decide)

theorem Does_wp {P : Program} {r : Option Nat} {o : Oper} {a : Act} {w : World} {K : Value → World → Prop} {next : Act → World → Prop} {Q : Exit → Act → World → Prop}
    (hd : ∀ c, o.op ≠ .defer c) (h : Does P (execOp a.eval o) w K) (hn : ∀ v w, K v w → next (a.put o.dst v) w) : o.wpIn (Fr r) 0 P a w next Q := by
  refine ⟨fun _ _ => trivial, ?_⟩
  rw [Oper.semAt_eq _ _ _ hd]
  have hdep : (Fr r).depth.isSome = true → 1 ≤ 0 := fun h => by cases h
  unfold Does at h
  split at h <;> rename_i hr <;> simp only [hr, Oper.uponIn]
  · exact hn _ _ h
  · exact hn _ _ h
  · refine ⟨hdep, (callsIn_wide (n := 0).2 h : CallsIn (Fr r) 0 P _ _ _ _).mono fun e w'' ⟨v, he, hk⟩ => ?_⟩
    subst he
    exact hn _ _ hk
  · refine ⟨hdep, (h : RoundIn (Fr r) 0 P _ _ _ _ _ _ _).mono fun e w'' ⟨v, he, hk⟩ => ?_⟩
    subst he
    exact hn _ _ hk
  · exact h.elim

theorem At_good (P : Program) (w : World) : Good P (At P w) fun m v => m.run P w = .ok (.value v) w :=
  ⟨fun m v h => by simp [show m.run P w = .ok v w from h], fun _ _ h => h w⟩

theorem AtS_good (P : Program) (S : World → Prop) : Good P (AtS P S) fun m v => ∀ w, S w → m.run P w = .ok (.value v) w :=
  ⟨fun m v h w hw => by simp [h w hw], fun _ _ h w _ => h w⟩

theorem vcOp_sound {P : Program} {E : List (Nat × TypeId)} {ρ : Env} {o : Oper} {w : World} {K : Value → World → Prop} (h : vcOp P E ρ o w K) : Does P (execOp (ev ρ) o) w K := by
  unfold vcOp at h
  split at h
  · obtain ⟨v, hr, hk⟩ := rdOp_sound (At_good P w) h
    unfold Does
    rw [hr]
    exact hk
  · exact efOp_sound h

theorem guardDst_some {ops : List Oper} {j d : Nat} (h : guardDst ops j = some d) : (ops.toArray[j]?).bind (·.dst) = some d := by
  unfold guardDst at h
  simp only [List.getElem?_toArray]
  split at h
  · rename_i o ho; rw [ho]; exact h
  · cases h

/-- What a guard says, in the frame's words. -/
theorem guardK_of {N : Nat} {ops : List Oper} {o : Oper} {a : Act} {ρ : Env} (hs : Shows N a ρ) (hok : ∀ j d, guardDst ops j = some d → d < N) {yes no : Env → Prop} (h : guardK ops o.guard ρ yes no) :
    ∃ ρ', Shows N a ρ' ∧ (∀ i, ρ' i = ρ i) ∧ ((Region.wanted o (yielded ops.toArray a.tmps) = true ∧ yes ρ') ∨ (Region.wanted o (yielded ops.toArray a.tmps) = false ∧ no ρ')) := by
  unfold guardK at h
  split at h
  · rename_i hg
    exact ⟨ρ, hs, fun _ => rfl, .inl ⟨by simp [Region.wanted, hg], h⟩⟩
  · rename_i j want hg
    split at h
    · exact h.elim
    · rename_i d hd
      have hdN := hok j d hd
      split at h
      · rename_i t ht
        have hy : yielded ops.toArray a.tmps j = some t := by
          unfold yielded
          rw [guardDst_some hd]
          have h1 := hs.get d hdN
          rw [ht] at h1
          have h2 : d < a.tmps.size := by rw [hs.size]; exact hdN
          have h3 : a.tmps[d]? = some (.bool t) := by
            rw [Array.getElem?_eq_getElem h2]
            have : a.tmps.getD d undef = a.tmps[d] := by simp [h2]
            rw [← this, h1]
          simp [h3]
        have hsame : ∀ i, upd ρ d (.bool t) i = ρ i := fun i => by
          by_cases e : i = d
          · subst e; rw [upd_same, ht]
          · exact upd_other e
        have hs' : Shows N a (upd ρ d (.bool t)) := ⟨hs.size, fun i hi => by rw [hsame i]; exact hs.get i hi, by rw [hsame N]; exact hs.defers⟩
        refine ⟨upd ρ d (.bool t), hs', hsame, ?_⟩
        simp only [Region.wanted, hg, hy]
        cases want <;> cases t <;> simp [brc] at h ⊢ <;> exact h
      · rename_i hnb
        refine ⟨ρ, hs, fun _ => rfl, .inr ⟨?_, h⟩⟩
        have h1 := hs.get d hdN
        have h2 : d < a.tmps.size := by rw [hs.size]; exact hdN
        have h3 : a.tmps[d]? = some (ρ d) := by
          rw [Array.getElem?_eq_getElem h2]
          have : a.tmps.getD d undef = a.tmps[d] := by simp [h2]
          rw [← this, h1]
        have hy : yielded ops.toArray a.tmps j = none := by
          unfold yielded
          rw [guardDst_some hd]
          simp only [Option.bind_some, h3]
          split
          · rename_i b hb
            injection hb with hb
            exact absurd hb (hnb b)
          · rfl
        simp [Region.wanted, hg, hy]

theorem vcOps_sound {P : Program} {r : Option Nat} {E : List (Nat × TypeId)} {N : Nat} {ops : List Oper} (hok : ops.all (operOk N) = true) : ∀ (l : List Oper) (ρ : Env) (w : World) (a : Act) (K : Env → World → Prop) (Q : Exit → Act → World → Prop),
    (∀ o ∈ l, operOk N o = true) → Shows N a ρ → vcOps P E ops l ρ w K → (∀ ρ w a, Shows N a ρ → K ρ w → Q .normal a w) → wpListIn (Fr r) 0 P ops.toArray Q l a w
  | [], ρ, w, a, K, Q, _, hs, h, hq => hq _ _ _ hs h
  | o :: rest, ρ, w, a, K, Q, hl, hs, h, hq => by
    have hd : ∀ j d, guardDst ops j = some d → d < N := fun j d hj => by
      unfold guardDst at hj
      split at hj
      · rename_i o' ho
        exact operOk_dst (List.all_eq_true.1 hok o' (List.mem_of_getElem? ho)) d hj
      · cases hj
    have ho := hl o List.mem_cons_self
    simp only [vcOps] at h
    obtain ⟨ρ', hs', _, hw⟩ := guardK_of hs hd h
    unfold wpListIn
    rcases hw with ⟨hw, h⟩ | ⟨hw, h⟩
    · rw [if_pos hw]
      refine (Does_wp (operOk_defer ho) (K := fun v w' => vcOps P E ops rest (updO ρ' o.dst v) w' K) (by rw [hs'.exec ho]; exact vcOp_sound h) fun v w' hk => ?_)
      exact vcOps_sound hok rest _ _ _ K Q (fun o hx => hl o (List.mem_cons_of_mem _ hx)) (hs'.put (operOk_dst ho) v) hk hq
    · rw [if_neg (by simp [hw])]
      refine ⟨fun _ _ => trivial, ?_⟩
      exact vcOps_sound hok rest _ _ _ K Q (fun o hx => hl o (List.mem_cons_of_mem _ hx)) (hs'.put (operOk_dst ho) undef) h hq

end Go.Proofs.Ytonjaaljnjjjcaa

/- 'vc' is sound: regions whose order is drawn, loops, and whole codes. Conditions: asg in V2. -/
set_option linter.unusedVariables false
set_option linter.unusedSimpArgs false
namespace Go.Proofs.Ytonjaaljnjjjcaa
open Go

theorem noSelect_of {N : Nat} {ops : List Oper} (hok : ops.all (operOk N) = true) : Region.noSelect ops.toArray = true := by
  unfold Region.noSelect
  rw [← Array.all_toList]
  refine List.all_eq_true.2 fun o ho => ?_
  have h := List.all_eq_true.1 hok o (by simpa using ho)
  simp only [operOk, Bool.and_eq_true] at h
  have h2 := h.2
  cases ho : o.op <;> simp [ho, notSelect] at h2 ⊢

theorem noDefer_of {N : Nat} {ops : List Oper} (hok : ops.all (operOk N) = true) : ∀ (j : Nat) (o : Oper) c, ops.toArray[j]? = some o → o.op ≠ .defer c := fun j o c ho =>
  operOk_defer (List.all_eq_true.1 hok o (List.mem_of_getElem? (by simpa using ho))) c

theorem guard_lt {N : Nat} {ops : List Oper} (hok : ops.all (operOk N) = true) : ∀ j d, guardDst ops j = some d → d < N := fun j d hj => by
  unfold guardDst at hj
  split at hj
  · rename_i o' ho
    exact operOk_dst (List.all_eq_true.1 hok o' (List.mem_of_getElem? ho)) d hj
  · cases hj

theorem YieldsIf_wpOpIn {P : Program} {r : Option Nat} {ops : Array Oper} {Q : Exit → Act → World → Prop} {S : World → Prop} {i : Nat} {o : Oper} {v : Value} {a : Act} (hi : ops[i]? = some o) (hd : ∀ c, o.op ≠ .defer c) (hy : YieldsIf P ops S o v a)
    {K : Act → World → Prop} {w : World} (hS : S w) (h : K (a.put o.dst v) w) : wpOpIn (Fr r) 0 P ops Q i K a w := by
  unfold wpOpIn
  simp only [hi]
  rcases hy with ⟨hw, hv⟩ | ⟨hw, rfl⟩
  · simp only [hw, if_true, Oper.wpIn, Oper.semAt_eq _ _ _ hd, hv w hS, Oper.uponIn]; exact ⟨fun _ _ => trivial, h⟩
  · simp only [hw, Bool.false_eq_true, if_false]; exact ⟨fun _ _ => trivial, h⟩

theorem wpOpIn_putIf {P : Program} {r : Option Nat} {ops : Array Oper} {Q : Exit → Act → World → Prop} {S : World → Prop} {j : Nat} {oi oj : Oper} {v : Value} (hj : ops[j]? = some oj) (hap : oi.apart ops oj = true)
    (hsi : ∀ cs b, oi.op ≠ .select cs b) (hsj : ∀ cs b, oj.op ≠ .select cs b) (hdj : ∀ c, oj.op ≠ .defer c)
    (hQ : ∀ c a w, Q (.panic c) (a.put oi.dst v) w → Q (.panic c) a w) {K : Act → World → Prop} {a : Act} {w : World}
    (hy : YieldsIf P ops S oi v a) (h : wpOpIn (Fr r) 0 P ops Q j K (a.put oi.dst v) w) :
    wpOpIn (Fr r) 0 P ops Q j (fun a' w' => YieldsIf P ops S oi v a' ∧ K (a'.put oi.dst v) w') a w := by
  obtain ⟨h1, h2, h3⟩ := Oper.apart_spec hap
  have keep : ∀ (a : Act), YieldsIf P ops S oi v a → ∀ u, YieldsIf P ops S oi v (a.put oj.dst u) := fun a hy u =>
    hy.of_same (execOp_put oi hsi a oj.dst u h3) (wanted_put oi a oj.dst u h3)
  have keepD : ∀ d, YieldsIf P ops S oi v { a with defers := d :: a.defers } := fun d => hy.of_same rfl rfl
  unfold wpOpIn at *
  simp only [hj] at *
  rw [wanted_put oj a oi.dst v h1] at h
  split
  · rename_i hw
    simp only [hw, if_true] at h
    unfold Oper.wpIn at *
    refine ⟨fun _ _ => trivial, ?_⟩
    have h := h.2
    rw [Oper.semAt_eq _ _ _ hdj, execOp_put oj hsj a oi.dst v h1] at h
    rw [Oper.semAt_eq _ _ _ hdj]
    generalize (execOp a.eval oj).run P w = r at *
    cases r with
    | ok x w' =>
      cases x <;> simp only [Oper.uponIn] at h ⊢
      case value u => exact ⟨keep a hy u, by rw [← Act.put_comm a v u h2]; exact h⟩
      case skip => exact ⟨keep a hy _, by rw [← Act.put_comm a v undef h2]; exact h⟩
      case defer d =>
        refine ⟨keep _ (keepD d) _, ?_⟩
        rw [← Act.put_comm _ v undef h2, ← Act.put_defers]
        exact h
      case enter f args =>
        refine ⟨h.1, CallsIn.mono h.2 fun e w'' he => ?_⟩
        cases e with
        | returned u => exact ⟨keep a hy u, by rw [← Act.put_comm a v u h2]; exact he⟩
        | panicked c => exact hQ _ _ _ he
        | outgrown => exact he
      case row row args => exact ⟨h.1, RowsIn.mono h.2 fun u w'' he => ⟨keep a hy u, by rw [← Act.put_comm a v u h2]; exact he⟩⟩
      case round l f tmps assign body =>
        refine ⟨h.1, RoundIn.mono h.2 fun e w'' he => ?_⟩
        cases e with
        | returned u => exact ⟨keep a hy u, by rw [← Act.put_comm a v u h2]; exact he⟩
        | panicked c => exact hQ _ _ _ he
        | outgrown => exact he
    | halt x w' =>
      cases x <;> simp only [Oper.uponIn] at h ⊢
      case panic u => exact hQ _ _ _ h
  · rename_i hw
    simp only [hw] at h
    exact ⟨fun _ _ => trivial, keep a hy _, by rw [← Act.put_comm a v undef h2]; exact h.2⟩

/-- Whatever order is picked from here on; the condition stands while those of 'held' may yet come. -/
def wpAnyD (P : Program) (r : Option Nat) (ops : List Oper) (Q : Exit → Act → World → Prop) : Nat → Array Bool → List Nat → (World → Prop) → Act → World → Prop
  | 0, listed, _, _, a, w => Region.ready .any ops.toArray listed = [] ∧ Q .normal a w
  | n + 1, listed, held, S, a, w => (Region.ready .any ops.toArray listed = [] → Q .normal a w) ∧
    ∀ i ∈ Region.ready .any ops.toArray listed, wpOpIn (Fr r) 0 P ops.toArray Q i (fun a' w' => ∃ S' : World → Prop, S' w' ∧
      ((cov ops i held = true ∧ wpAnyD P r ops Q n (listed.setIfInBounds i true) [] S' a' w') ∨ ((∀ w, S' w → S w) ∧ wpAnyD P r ops Q n (listed.setIfInBounds i true) held S' a' w'))) a w

theorem cov_sub {ops : List Oper} {j : Nat} : ∀ {l l' : List Nat}, (∀ x ∈ l', x ∈ l) → cov ops j l = true → cov ops j l' = true := by
  have key : ∀ l : List Nat, cov ops j l = true ↔ ∀ i ∈ l, ∃ o, ops[j]? = some o ∧ (o.after.toList.any fun e => Region.binds .any e && Nat.beq e.on i) = true := by
    intro l
    induction l with
    | nil => simp [cov]
    | cons i l ih =>
      unfold cov
      constructor
      · intro h x hx
        split at h
        · rename_i o ho
          split at h
          · rename_i ha
            rcases List.mem_cons.1 hx with rfl | hx
            · exact ⟨o, ho, ha⟩
            · exact ih.1 h x hx
          · cases h
        · cases h
      · intro h
        obtain ⟨o, ho, ha⟩ := h i List.mem_cons_self
        simp only [ho, ha]
        exact ih.2 fun x hx => h x (List.mem_cons_of_mem _ hx)
  intro l l' hs h
  exact (key l').2 fun i hi => (key l).1 h i (hs i hi)

theorem cov_cons {ops : List Oper} {i j : Nat} {l : List Nat} {o : Oper} (ho : ops[j]? = some o) (hn : ∀ e ∈ o.after, Region.binds .any e = true → e.on ≠ i) : cov ops j (i :: l) = false := by
  unfold cov
  simp only [ho]
  have : (o.after.toList.any fun e => Region.binds .any e && Nat.beq e.on i) = false := by
    rw [List.any_eq_false]
    intro e he
    simp only [Bool.and_eq_true, not_and, Bool.not_eq_true]
    intro hb
    have := hn e (by simpa using he) hb
    cases hbe : Nat.beq e.on i
    · rfl
    · exact absurd (Nat.eq_of_beq_eq_true hbe) this
  simp only [this]

section
variable {P : Program} {r : Option Nat} {ops : List Oper} {Q : Exit → Act → World → Prop}

theorem wpAny_of_D : ∀ (n : Nat) (listed : Array Bool) (held : List Nat) (S : World → Prop) (a : Act) (w : World), wpAnyD P r ops Q n listed held S a w → wpAnyIn (Fr r) 0 P .any ops.toArray Q n listed a w
  | 0, _, _, _, _, _, h => h
  | n + 1, _, _, _, _, _, h => ⟨h.1, fun i hi => wpOpIn_mono (fun a' w' ⟨S', _, h'⟩ => h'.elim (fun h => wpAny_of_D n _ _ S' a' w' h.2) (fun h => wpAny_of_D n _ _ S' a' w' h.2)) (h.2 i hi)⟩

theorem wpAnyD_sub : ∀ (n : Nat) (listed : Array Bool) (held held' : List Nat) (S : World → Prop) (a : Act) (w : World), (∀ x ∈ held', x ∈ held) → wpAnyD P r ops Q n listed held S a w → wpAnyD P r ops Q n listed held' S a w
  | 0, _, _, _, _, _, _, _, h => h
  | n + 1, _, held, held', _, _, _, hs, h => ⟨h.1, fun i hi => wpOpIn_mono (fun a' w' ⟨S', h0, h'⟩ => ⟨S', h0, h'.elim (fun h => .inl ⟨cov_sub hs h.1, h.2⟩) (fun h => .inr ⟨h.1, wpAnyD_sub n _ held held' _ _ _ hs h.2⟩)⟩) (h.2 i hi)⟩

theorem YieldsIf_mono {S S' : World → Prop} {o : Oper} {v : Value} {a : Act} (h : ∀ w, S' w → S w) (hy : YieldsIf P ops.toArray S o v a) : YieldsIf P ops.toArray S' o v a :=
  hy.imp (fun ⟨hw, hv⟩ => ⟨hw, fun w hw' => hv w (h w hw')⟩) id

/-- A reading that hangs on memory is taken first. -/
theorem wpAnyD_held {i : Nat} {oi : Oper} {v : Value} (hi : ops.toArray[i]? = some oi) (hsel : ∀ (j : Nat) (o : Oper) cs b, ops.toArray[j]? = some o → o.op ≠ .select cs b) (hdef : ∀ (j : Nat) (o : Oper) c, ops.toArray[j]? = some o → o.op ≠ .defer c)
    (hQ : ∀ c a w, Q (.panic c) (a.put oi.dst v) w → Q (.panic c) a w) :
    ∀ (fuel : Nat) (listed : Array Bool) (held : List Nat) (S : World → Prop) (a : Act) (w : World),
      (∀ j oj, ops.toArray[j]? = some oj → j ≠ i → listed.getD j true = false → (∀ e ∈ oj.after, Region.binds .any e = true → e.on ≠ i) → oi.apart ops.toArray oj = true) →
      i ∈ Region.ready .any ops.toArray listed → YieldsIf P ops.toArray S oi v a → S w →
      wpAnyD P r ops Q fuel (listed.setIfInBounds i true) (i :: held) S (a.put oi.dst v) w → wpAnyD P r ops Q (fuel + 1) listed held S a w := by
  intro fuel
  induction fuel with
  | zero =>
    intro listed held S a w _ hr hy hS H
    refine ⟨fun h => (by rw [h] at hr; cases hr), fun j hj => ?_⟩
    by_cases hji : j = i
    · subst hji; exact YieldsIf_wpOpIn hi (hdef _ _ · hi) hy hS ⟨S, hS, .inr ⟨fun _ h => h, wpAnyD_sub _ _ _ _ _ _ _ (fun x hx => List.mem_cons_of_mem _ hx) H⟩⟩
    · have := ready_mono hj hji
      rw [H.1] at this
      cases this
  | succ fuel ih =>
    intro listed held S a w hfree hr hy hS H
    refine ⟨fun h => (by rw [h] at hr; cases hr), fun j hj => ?_⟩
    by_cases hji : j = i
    · subst hji; exact YieldsIf_wpOpIn hi (hdef _ _ · hi) hy hS ⟨S, hS, .inr ⟨fun _ h => h, wpAnyD_sub _ _ _ _ _ _ _ (fun x hx => List.mem_cons_of_mem _ hx) H⟩⟩
    · have h1 := H.2 j (ready_mono hj hji)
      obtain ⟨hjun, oj, hoj, hall⟩ := mem_ready.1 hj
      have hnot : ∀ e ∈ oj.after, Region.binds .any e = true → e.on ≠ i := fun e he hb heq => by
        have h1 := hall e he hb
        have h0 := (mem_ready.1 hr).1
        rw [heq] at h1
        rcases Nat.lt_or_ge i listed.size with h' | h'
        · simp [h'] at h0 h1; rw [h0] at h1; cases h1
        · simp [Array.getElem?_eq_none h'] at h1
      have hc : cov ops j (i :: held) = false := cov_cons (by simpa using hoj) hnot
      have h2 := wpOpIn_putIf hoj (hfree j oj hoj hji hjun hnot) (fun cs b => hsel i oi cs b hi) (fun cs b => hsel j oj cs b hoj) (fun c => hdef j oj c hoj) hQ hy h1
      have hfree' : ∀ k ok, ops.toArray[k]? = some ok → k ≠ i → (listed.setIfInBounds j true).getD k true = false →
          (∀ e ∈ ok.after, Region.binds .any e = true → e.on ≠ i) → oi.apart ops.toArray ok = true := fun k ok hk hki hun hno => by
        refine hfree k ok hk hki ?_ hno
        by_cases hjk : j = k
        · subst hjk; exact hjun
        · rw [getD_set_ne true hjk] at hun; exact hun
      refine wpOpIn_mono (fun a' w' ⟨hya, S', hS', h3⟩ => ⟨S', hS', ?_⟩) h2
      rcases h3 with ⟨h3, _⟩ | ⟨hle, h3⟩
      · rw [hc] at h3; cases h3
      · refine .inr ⟨hle, ih (listed.setIfInBounds j true) held S' a' w' hfree' (ready_mono hr (Ne.symm hji)) (YieldsIf_mono hle hya) hS' ?_⟩
        rw [Array.setIfInBounds_comm _ _ hji]
        exact h3

/-- A reading that hangs on nothing is taken first. -/
theorem wpAnyD_pure {i : Nat} {oi : Oper} {v : Value} (hi : ops.toArray[i]? = some oi) (hsel : ∀ (j : Nat) (o : Oper) cs b, ops.toArray[j]? = some o → o.op ≠ .select cs b) (hdef : ∀ (j : Nat) (o : Oper) c, ops.toArray[j]? = some o → o.op ≠ .defer c)
    (hQ : ∀ c a w, Q (.panic c) (a.put oi.dst v) w → Q (.panic c) a w) :
    ∀ (fuel : Nat) (listed : Array Bool) (held : List Nat) (S : World → Prop) (a : Act) (w : World),
      (∀ j oj, ops.toArray[j]? = some oj → j ≠ i → listed.getD j true = false → (∀ e ∈ oj.after, Region.binds .any e = true → e.on ≠ i) → oi.apart ops.toArray oj = true) →
      i ∈ Region.ready .any ops.toArray listed → YieldsIf P ops.toArray (fun _ => True) oi v a → S w →
      wpAnyD P r ops Q fuel (listed.setIfInBounds i true) held S (a.put oi.dst v) w → wpAnyD P r ops Q (fuel + 1) listed held S a w := by
  intro fuel
  induction fuel with
  | zero =>
    intro listed held S a w _ hr hy hS H
    refine ⟨fun h => (by rw [h] at hr; cases hr), fun j hj => ?_⟩
    by_cases hji : j = i
    · subst hji; exact YieldsIf_wpOpIn hi (hdef _ _ · hi) hy trivial ⟨S, hS, .inr ⟨fun _ h => h, H⟩⟩
    · have := ready_mono hj hji
      rw [H.1] at this
      cases this
  | succ fuel ih =>
    intro listed held S a w hfree hr hy hS H
    refine ⟨fun h => (by rw [h] at hr; cases hr), fun j hj => ?_⟩
    by_cases hji : j = i
    · subst hji; exact YieldsIf_wpOpIn hi (hdef _ _ · hi) hy trivial ⟨S, hS, .inr ⟨fun _ h => h, H⟩⟩
    · have h1 := H.2 j (ready_mono hj hji)
      obtain ⟨hjun, oj, hoj, hall⟩ := mem_ready.1 hj
      have hnot : ∀ e ∈ oj.after, Region.binds .any e = true → e.on ≠ i := fun e he hb heq => by
        have h1 := hall e he hb
        have h0 := (mem_ready.1 hr).1
        rw [heq] at h1
        rcases Nat.lt_or_ge i listed.size with h' | h'
        · simp [h'] at h0 h1; rw [h0] at h1; cases h1
        · simp [Array.getElem?_eq_none h'] at h1
      have h2 := wpOpIn_putIf hoj (hfree j oj hoj hji hjun hnot) (fun cs b => hsel i oi cs b hi) (fun cs b => hsel j oj cs b hoj) (fun c => hdef j oj c hoj) hQ hy h1
      have hfree' : ∀ k ok, ops.toArray[k]? = some ok → k ≠ i → (listed.setIfInBounds j true).getD k true = false →
          (∀ e ∈ ok.after, Region.binds .any e = true → e.on ≠ i) → oi.apart ops.toArray ok = true := fun k ok hk hki hun hno => by
        refine hfree k ok hk hki ?_ hno
        by_cases hjk : j = k
        · subst hjk; exact hjun
        · rw [getD_set_ne true hjk] at hun; exact hun
      refine wpOpIn_mono (fun a' w' ⟨hya, S', hS', h3⟩ => ⟨S', hS', ?_⟩) h2
      rcases h3 with ⟨h3, h4⟩ | ⟨hle, h4⟩
      · refine .inl ⟨h3, ih (listed.setIfInBounds j true) [] S' a' w' hfree' (ready_mono hr (Ne.symm hji)) hya hS' ?_⟩
        rw [Array.setIfInBounds_comm _ _ hji]
        exact h4
      · refine .inr ⟨hle, ih (listed.setIfInBounds j true) held S' a' w' hfree' (ready_mono hr (Ne.symm hji)) hya hS' ?_⟩
        rw [Array.setIfInBounds_comm _ _ hji]
        exact h4

theorem wpAnyD_done {listed : Array Bool} {held : List Nat} {S : World → Prop} {a : Act} {w : World} (hr : Region.ready .any ops.toArray listed = []) (h : Q .normal a w) :
    ∀ fuel, wpAnyD P r ops Q fuel listed held S a w
  | 0 => ⟨hr, h⟩
  | _ + 1 => ⟨fun _ => h, by rw [hr]; simp⟩
end

theorem vcDraw_sound {P : Program} {r : Option Nat} {E : List (Nat × TypeId)} {N : Nat} {ops : List Oper} (hok : ops.all (operOk N) = true) {K : Env → World → Prop} {Q : Exit → Act → World → Prop}
    (hq : ∀ ρ w a, Shows N a ρ → K ρ w → Q .normal a w) (hp : ∀ c a w, ¬ Q (.panic c) a w) :
    ∀ (S : World → Prop) (held : List Nat) (n : Nat) (listed : Array Bool) (ρ : Env) (w : World) (a : Act), Shows N a ρ → S w → vcDraw P E ops S held n listed ρ w K → wpAnyD P r ops Q n listed held S a w
  | S, held, 0, listed, ρ, w, a, hs, _, h => by
    unfold vcDraw at h
    split at h
    · rename_i hr; exact ⟨hr, hq _ _ _ hs h⟩
    · exact h.elim
  | S, held, n + 1, listed, ρ, w, a, hs, hS, h => by
    unfold vcDraw at h
    split at h
    · rename_i hr; exact wpAnyD_done hr (hq _ _ _ hs h) _
    · rename_i hne
      split at h
      · rename_i i hi
        split at h
        · rename_i o ho hf hc
          have hoN : operOk N o = true := List.all_eq_true.1 hok o (List.mem_of_getElem? ho)
          have ho' : ops.toArray[i]? = some o := by simpa using ho
          obtain ⟨ρ', hs', _, hw⟩ := guardK_of hs (guard_lt hok) h
          rcases hw with ⟨hw, h⟩ | ⟨hw, h⟩
          · split at h
            · obtain ⟨v, hv, hk⟩ := rdOp_sound (AtS_good P S) h
              refine wpAnyD_held (v := v) ho' (Region.noSelect_spec (noSelect_of hok)) (noDefer_of hok) (fun c a w h => absurd h (hp c _ w)) n listed held S a w (Region.free_spec ho' hf) (by simpa using hc) (.inl ⟨hw, fun w hw => ?_⟩) hS ?_
              · rw [hs'.exec hoN]; exact hv w hw
              · exact vcDraw_sound hok hq hp S _ n _ _ w _ (hs'.put (operOk_dst hoN) v) hS hk
            · obtain ⟨v, hv, hk⟩ := rdOp_sound (AtS_good P fun _ => True) h
              refine wpAnyD_pure (v := v) ho' (Region.noSelect_spec (noSelect_of hok)) (noDefer_of hok) (fun c a w h => absurd h (hp c _ w)) n listed held S a w (Region.free_spec ho' hf) (by simpa using hc) (.inl ⟨hw, fun w hw => ?_⟩) hS ?_
              · rw [hs'.exec hoN]; exact hv w hw
              · exact vcDraw_sound hok hq hp S _ n _ _ w _ (hs'.put (operOk_dst hoN) v) hS hk
          · refine wpAnyD_pure (v := undef) ho' (Region.noSelect_spec (noSelect_of hok)) (noDefer_of hok) (fun c a w h => absurd h (hp c _ w)) n listed held S a w (Region.free_spec ho' hf) (by simpa using hc) (.inr ⟨hw, rfl⟩) hS ?_
            exact vcDraw_sound hok hq hp S _ n _ _ w _ (hs'.put (operOk_dst hoN) undef) hS h
        · exact h.elim
      · refine ⟨fun h0 => absurd h0 (fun e => hne e), fun i hi => ?_⟩
        have hx := conjL_all h i hi
        split at hx
        · rename_i o ho
          have hoN : operOk N o = true := List.all_eq_true.1 hok o (List.mem_of_getElem? ho)
          obtain ⟨ρ', hs', _, hw⟩ := guardK_of hs (guard_lt hok) hx
          unfold wpOpIn
          have ho' : ops.toArray[i]? = some o := by simpa using ho
          simp only [ho']
          rcases hw with ⟨hw, h⟩ | ⟨hw, h⟩
          · rw [if_pos hw]
            refine (Does_wp (operOk_defer hoN) (by rw [hs'.exec hoN]; exact efOp_sound h) fun v w' hk => ?_)
            cases hcv : cov ops i held with
            | true =>
              simp only [hcv] at hk
              obtain ⟨S', hS', hk⟩ := hk
              exact ⟨S', hS', .inl ⟨rfl, vcDraw_sound hok hq hp S' _ n _ _ w' _ (hs'.put (operOk_dst hoN) v) hS' hk⟩⟩
            | false =>
              simp only [hcv] at hk
              obtain ⟨S', hle, hS', hk⟩ := hk
              exact ⟨S', hS', .inr ⟨hle, vcDraw_sound hok hq hp S' _ n _ _ w' _ (hs'.put (operOk_dst hoN) v) hS' hk⟩⟩
          · rw [if_neg (by simp [hw])]
            exact ⟨fun _ _ => trivial, S, hS, .inr ⟨fun _ h => h, vcDraw_sound hok hq hp S _ n _ _ w _ (hs'.put (operOk_dst hoN) undef) hS h⟩⟩
        · exact hx.elim

/-! ### What a code does not write stays -/
theorem exLeaf_mono {d : TypeDesc} {K K' : Value → Prop} (hm : ∀ v, K v → K' v) (h : exLeaf d K) : exLeaf d K' := by
  unfold exLeaf at *
  cases d <;> (obtain ⟨b, h⟩ := h; exact ⟨b, hm _ h⟩)

mutual
theorem exCells_mono {P : Program} : ∀ (n : Nat) (t : TypeId) (K K' : List Value → Prop), (∀ l, K l → K' l) → exCells P n t K → exCells P n t K'
  | 0, _, _, _, _, h => by simp [exCells] at h
  | n + 1, t, K, K', hm, h => by
    unfold exCells at *
    split <;> simp_all only
    · exact exFields_mono n _ K K' hm h
    · obtain ⟨cs, h⟩ := h; exact ⟨cs, hm _ h⟩
    · exact exLeaf_mono (fun v hv => hm _ hv) h
theorem exFields_mono {P : Program} : ∀ (n : Nat) (fs : List Field) (K K' : List Value → Prop), (∀ l, K l → K' l) → exFields P n fs K → exFields P n fs K'
  | 0, _, _, _, _, h => by simp [exFields] at h
  | _ + 1, [], K, K', hm, h => by simp only [exFields] at *; exact hm _ h
  | n + 1, f :: fs, K, K', hm, h => by
    simp only [exFields] at *
    exact exCells_mono n f.type _ _ (fun a ha => exFields_mono n fs _ _ (fun b hb => hm _ hb) ha) h
end

theorem exTy_mono {P : Program} {t : TypeId} {K K' : Value → Prop} (hm : ∀ v, K v → K' v) (h : exTy P t K) : exTy P t K' := by
  unfold exTy at *
  split <;> simp_all only
  · exact exFields_mono _ _ _ _ (fun l hl => hm _ hl) h
  · obtain ⟨cs, h⟩ := h; exact ⟨cs, hm _ h⟩
  · exact exLeaf_mono hm h

theorem exTys_mono {P : Program} : ∀ (ts : List TypeId) (K K' : List Value → Prop), (∀ l, K l → K' l) → exTys P ts K → exTys P ts K'
  | [], _, _, hm, h => hm _ h
  | t :: ts, K, K', hm, h => by
    simp only [exTys] at *
    exact exTy_mono (fun v hv => exTys_mono ts _ _ (fun l hl => hm _ hl) hv) h

theorem exRes_mono {P : Program} {f : FuncId} {K K' : Value → Prop} (hm : ∀ v, K v → K' v) (h : exRes P f K) : exRes P f K' := by
  unfold exRes at *
  split <;> simp_all only
  split <;> simp_all only
  · exact exTy_mono hm h
  · exact exTys_mono _ _ _ (fun l hl => hm _ hl) h

theorem kEq_mono {k k' : IntKind} {A B : Prop} (hm : A → B) (h : kEq k k' A) : kEq k k' B := by
  unfold kEq at *
  split <;> simp_all

theorem brc_mono {t : Bool} {A B A' B' : Prop} (ha : A → A') (hb : B → B') (h : brc t A B) : brc t A' B' := by
  cases t
  · exact hb h
  · exact ha h

theorem optK_mono {α : Type} {p : Option α} {K K' : α → Prop} (hm : ∀ v, K v → K' v) (h : optK p K) : optK p K' := by
  cases p with
  | none => exact h
  | some a => exact hm _ h

theorem boundK_mono {x : Option Value} {d t : Nat} {K K' : Nat → Prop} (hm : ∀ v, K v → K' v) (h : boundK x d t K) : boundK x d t K' := by
  unfold boundK at *
  split <;> simp_all

theorem binV_mono {P : Program} {op : BinOp} {t : TypeId} {x y : Value} {E E' : Prop} {K K' : Value → Prop} (he : E → E') (hm : ∀ v, K v → K' v) (h : binV P op t x y E K) : binV P op t x y E' K' := by
  unfold binV at *
  split <;> simp only at h
  all_goals first
    | exact kEq_mono (hm _) h
    | exact ⟨h.1, hm _ h.2⟩
    | exact kEq_mono (fun h => ⟨h.1, hm _ h.2⟩) h
    | exact hm _ h
    | (split <;> simp_all)
    | exact he h

theorem minMaxV_mono {b : Bool} {l : List Value} {E E' : Prop} {K K' : Value → Prop} (he : E → E') (hm : ∀ v, K v → K' v) (h : minMaxV b l E K) : minMaxV b l E' K' := by
  unfold minMaxV at *
  split <;> simp only at h
  · exact kEq_mono (hm _) h
  · exact he (by simpa using h)

theorem rdOp_mono {P : Program} {E : List (Nat × TypeId)} {R : Rd} {ρ : Env} {op : Op} {ty : TypeId} {K K' : Value → Prop} (hm : ∀ v, K v → K' v) (h : rdOp P E R ρ op ty K) : rdOp P E R ρ op ty K' := by
  have fall : ∀ (t : TypeId) (m : Sem Value), (exTy P t fun v => R m v ∧ K v) → exTy P t fun v => R m v ∧ K' v := fun t m h => exTy_mono (fun v hv => ⟨hv.1, hm _ hv.2⟩) h
  cases op with
  | move x => exact hm _ h
  | assign x => exact hm _ h
  | pick c a b =>
    simp only [rdOp] at *
    split <;> simp_all only
    exact brc_mono (hm _) (hm _) h
  | load t x =>
    simp only [rdOp] at *
    split <;> simp_all only
  | nilCheck x =>
    simp only [rdOp] at *
    split <;> simp_all only
    exact optK_mono (fun a ha => hm _ ha) h
  | binOp o t x y yt => exact binV_mono (fun h => fall _ _ h) hm h
  | unOp o t x =>
    simp only [rdOp] at *
    split <;> simp_all only
  | fieldAddr s x f =>
    simp only [rdOp] at *
    split <;> simp_all only
  | indexAddr t x i =>
    simp only [rdOp] at *
    split <;> simp_all only
    · split <;> simp_all only
      exact ⟨⟨trivial, trivial⟩, optK_mono (fun a ha => hm _ ha) h.2⟩
    · split <;> simp_all only
      exact ⟨⟨trivial, trivial⟩, trivial⟩
  | extract x i =>
    simp only [rdOp] at *
    split <;> simp_all only
    split <;> simp_all only
  | makeFunc f a b => exact hm _ h
  | slice t x lo hi mx =>
    simp only [rdOp] at *
    split <;> simp_all only
    · split <;> simp_all only
      · exact boundK_mono (fun a ha => boundK_mono (fun b hb => hm _ hb) ha) h
      · split <;> simp_all only
        exact boundK_mono (fun a ha => boundK_mono (fun b hb => boundK_mono (fun c hc => hm _ hc) hb) ha) h
    · split <;> simp_all only
      exact boundK_mono (fun a ha => boundK_mono (fun b hb => hm _ hb) ha) h
  | convert s d x =>
    simp only [rdOp] at *
    split <;> simp_all only
  | lookup t x i ok =>
    simp only [rdOp] at *
    cases ok with
    | false => exact fall _ _ h
    | true => exact exTy_mono (fun v ⟨b, hr, hk⟩ => ⟨b, hr, hm _ hk⟩) h
  | entry x =>
    simp only [rdOp] at *
    split <;> simp_all only
    split <;> simp_all only
    split <;> simp_all only
    exact exTy_mono (fun u hu => exTy_mono (fun v hv => ⟨hv.1, hm _ hv.2⟩) hu) h
  | field t x f => exact fall _ _ h
  | index t x i => exact fall _ _ h
  | build t parts =>
    simp only [rdOp] at *
    cases hb : buildV P t (evp ρ parts) with
    | some cs => simp only [hb] at h ⊢; exact hm _ h
    | none => simp only [hb] at h ⊢; exact fall _ _ h
  | makeInterface t x => exact fall _ _ h
  | typeAssert x a b ok =>
    cases ok with
    | false => exact fall _ _ h
    | true => exact h
  | call c =>
    obtain ⟨callee, args, ats⟩ := c
    cases callee with
    | builtin b =>
      cases b with
      | len =>
        simp only [rdOp] at *
        split <;> simp_all only
        · split <;> simp_all only
        · split <;> simp_all only
      | cap => exact fall _ _ h
      | min => simp only [rdOp] at *; exact minMaxV_mono (fun h => fall _ _ h) hm h
      | max => simp only [rdOp] at *; exact minMaxV_mono (fun h => fall _ _ h) hm h
      | _ => exact h
    | _ => exact h
  | _ => exact h

theorem efOp_mono {P : Program} {ρ : Env} {op : Op} {ty : TypeId} {w : World} {K K' : Value → World → Prop} (hm : ∀ v w, K v w → K' v w) (h : efOp P ρ op ty w K) : efOp P ρ op ty w K' := by
  cases op with
  | alloc t => obtain ⟨a, w', hr, hk⟩ := h; exact ⟨a, w', hr, hm _ _ hk⟩
  | box t x => obtain ⟨a, w', hr, hk⟩ := h; exact ⟨a, w', hr, hm _ _ hk⟩
  | buildSlice t n parts => obtain ⟨a, w', hr, hk⟩ := h; exact ⟨a, w', hr, hm _ _ hk⟩
  | store t a x => obtain ⟨w', hr, hk⟩ := h; exact ⟨w', hr, hm _ _ hk⟩
  | mapUpdate t m k x => obtain ⟨w', hr, hk⟩ := h; exact ⟨w', hr, hm _ _ hk⟩
  | insert t m k x => obtain ⟨w', hr, hk⟩ := h; exact ⟨w', hr, hm _ _ hk⟩
  | makeMap t r => obtain ⟨a, w', hr, hk⟩ := h; exact ⟨a, w', hr, hm _ _ hk⟩
  | makeSlice t l c => obtain ⟨a, w', hr, hk⟩ := h; exact ⟨a, w', hr, hm _ _ hk⟩
  | convert s d x => obtain ⟨a, w', hr, hk⟩ := h; exact ⟨a, w', hr, hm _ _ hk⟩
  | range t x => obtain ⟨a, w', hr, hk⟩ := h; exact ⟨a, w', hr, hm _ _ hk⟩
  | next it s =>
    simp only [efOp] at *
    cases s with
    | true => exact h
    | false =>
      simp only [NextM] at *
      split <;> simp_all only
  | call c =>
    obtain ⟨callee, args, ats⟩ := c
    cases callee with
    | builtin b =>
      cases b with
      | append => obtain ⟨a, w', hr, hk⟩ := h; exact ⟨a, w', hr, hm _ _ hk⟩
      | copy => obtain ⟨a, w', hr, hk⟩ := h; exact ⟨a, w', hr, hm _ _ hk⟩
      | delete => obtain ⟨w', hr, hk⟩ := h; exact ⟨w', hr, hm _ _ hk⟩
      | _ => exact h
    | value f =>
      have hV : callV P (ev ρ f) (evs ρ args) w (fun e w' => exTy P ty fun v => e = .returned v ∧ K v w') → callV P (ev ρ f) (evs ρ args) w (fun e w' => exTy P ty fun v => e = .returned v ∧ K' v w') := by
        intro h
        unfold callV at *
        split <;> simp only [*] at h
        · exact ⟨h.1, h.2.mono fun e w' hk => exTy_mono (fun v hv => ⟨hv.1, hm _ _ hv.2⟩) hk⟩
        · obtain ⟨f', tmps, asg, b, w', hr, h⟩ := h
          exact ⟨f', tmps, asg, b, w', hr, h.mono fun e w' hk => exTy_mono (fun v hv => ⟨hv.1, hm _ _ hv.2⟩) hk⟩
      cases f with
      | func g =>
        simp only [efOp] at *
        split <;> simp_all only
        · exact h.mono fun e w' hk => exRes_mono (fun v hv => ⟨hv.1, hm _ _ hv.2⟩) hk
        · exact Does_mono hm h
      | tmp t => exact hV h
      | const v => exact hV h
      | global g => exact hV h
    | _ => exact h
  | _ => exact h

end Go.Proofs.Ytonjaaljnjjjcaa

/- 'vc' is sound: loops and whole codes; a call out of its body. Conditions: asg in V2. -/
set_option linter.unusedVariables false
set_option linter.unusedSimpArgs false
namespace Go.Proofs.Ytonjaaljnjjjcaa
open Go

theorem vcOp_mono {P : Program} {E : List (Nat × TypeId)} {ρ : Env} {o : Oper} {w : World} {K K' : Value → World → Prop} (hm : ∀ v w, K v w → K' v w) (h : vcOp P E ρ o w K) : vcOp P E ρ o w K' := by
  unfold vcOp at *
  split <;> simp_all only
  · exact rdOp_mono (fun v hv => hm _ _ hv) h
  · exact efOp_mono hm h

/-- All but what is written is asg it was. -/
def Agree (ws : List Nat) (ρ ρ' : Env) : Prop := ∀ i, i ∉ ws → ρ' i = ρ i

theorem Agree.refl (ws : List Nat) (ρ : Env) : Agree ws ρ ρ := fun _ _ => rfl
theorem Agree.trans {ws : List Nat} {a b c : Env} (h : Agree ws a b) (h' : Agree ws b c) : Agree ws a c := fun i hi => (h' i hi).trans (h i hi)
theorem Agree.mono {ws vs : List Nat} {a b : Env} (h : Agree ws a b) (hs : ∀ i, i ∈ ws → i ∈ vs) : Agree vs a b := fun i hi => h i fun h => hi (hs i h)
theorem Agree.put {ws : List Nat} {ρ ρ' : Env} {d : Option Nat} {v : Value} (hd : ∀ x, d = some x → x ∈ ws) (h : Agree ws (updO ρ d v) ρ') : Agree ws ρ ρ' := fun i hi => by
  rw [h i hi]
  cases d with
  | none => rfl
  | some d => exact upd_other fun e => hi (e ▸ hd d rfl)

theorem guardK_agree {ops : List Oper} {g : Option (Nat × Bool)} {ρ : Env} {yes no yes' no' : Env → Prop} (hy : ∀ ρ', (∀ i, ρ' i = ρ i) → yes ρ' → yes' ρ') (hn : ∀ ρ', (∀ i, ρ' i = ρ i) → no ρ' → no' ρ')
    (h : guardK ops g ρ yes no) : guardK ops g ρ yes' no' := by
  unfold guardK at *
  split <;> simp only at h
  · exact hy _ (fun _ => rfl) h
  · split <;> simp_all only
    rename_i d hd
    split
    case h_2 =>
      rename_i hnb
      refine hn _ (fun _ => rfl) ?_
      split at h
      · rename_i t ht; exact absurd ht (hnb t)
      · exact h
    rename_i t ht
    simp only [ht] at h
    have hsame : ∀ i, upd ρ d (.bool t) i = ρ i := fun i => by
      by_cases e : i = d
      · subst e; rw [upd_same, ht]
      · exact upd_other e
    split <;> simp_all only
    · cases t
      · exact hn _ hsame h
      · exact hy _ hsame h
    · cases t
      · exact hy _ hsame h
      · exact hn _ hsame h

theorem vcOps_agree {P : Program} {E : List (Nat × TypeId)} {ops : List Oper} {ws : List Nat} {ρ0 : Env} {K K' : Env → World → Prop} (hk : ∀ ρ w, Agree ws ρ0 ρ → K ρ w → K' ρ w) :
    ∀ (l : List Oper) (ρ : Env) (w : World), (∀ o ∈ l, ∀ x, o.dst = some x → x ∈ ws) → Agree ws ρ0 ρ → vcOps P E ops l ρ w K → vcOps P E ops l ρ w K'
  | [], _, _, _, ha, h => hk _ _ ha h
  | o :: rest, ρ, w, hl, ha, h => by
    simp only [vcOps] at *
    have hd := hl o List.mem_cons_self
    have hr : ∀ o ∈ rest, ∀ x, o.dst = some x → x ∈ ws := fun o ho => hl o (List.mem_cons_of_mem _ ho)
    have hput : ∀ (ρ' : Env) (v : Value), (∀ i, ρ' i = ρ i) → Agree ws ρ0 (updO ρ' o.dst v) := fun ρ' v hs =>
      ha.trans (fun i hi => by
        cases ho : o.dst with
        | none => exact hs i
        | some d => rw [updO, upd_other fun (e : i = d) => hi (by rw [e]; exact hd d ho)]; exact hs i)
    exact guardK_agree (fun ρ' hs h => vcOp_mono (fun v w' hv => vcOps_agree hk rest _ _ hr (hput ρ' v hs) hv) h) (fun ρ' hs h => vcOps_agree hk rest _ _ hr (hput ρ' undef hs) h) h

theorem conjL_mono {α : Type} {F G : α → Prop} : ∀ {l : List α}, (∀ x, F x → G x) → conjL F l → conjL G l
  | [], _, _ => trivial
  | [_], hm, h => hm _ h
  | _ :: y :: l, hm, h => ⟨hm _ h.1, conjL_mono (l := y :: l) hm h.2⟩

theorem vcDraw_agree {P : Program} {E : List (Nat × TypeId)} {ops : List Oper} {ws : List Nat} {ρ0 : Env} {K K' : Env → World → Prop} (hk : ∀ ρ w, Agree ws ρ0 ρ → K ρ w → K' ρ w) (hl : ∀ o ∈ ops, ∀ x, o.dst = some x → x ∈ ws) :
    ∀ (S : World → Prop) (held : List Nat) (n : Nat) (listed : Array Bool) (ρ : Env) (w : World), Agree ws ρ0 ρ → vcDraw P E ops S held n listed ρ w K → vcDraw P E ops S held n listed ρ w K'
  | S, held, 0, listed, ρ, w, ha, h => by
    unfold vcDraw at *
    split <;> simp_all only
  | S, held, n + 1, listed, ρ, w, ha, h => by
    have hput : ∀ (o : Oper) (ρ' : Env) (v : Value), o ∈ ops → (∀ i, ρ' i = ρ i) → Agree ws ρ0 (updO ρ' o.dst v) := fun o ρ' v ho hs =>
      ha.trans (fun i hi => by
        cases hd : o.dst with
        | none => exact hs i
        | some d => rw [updO, upd_other fun (e : i = d) => hi (by rw [e]; exact hl o ho d hd)]; exact hs i)
    unfold vcDraw at *
    generalize Region.ready .any ops.toArray listed = rs at h ⊢
    cases rs with
    | nil => exact hk _ _ ha h
    | cons x l =>
      dsimp only at h ⊢
      cases hf : firstRd P ops (x :: l) with
      | some i =>
        simp only [hf] at h ⊢
        cases ho : ops[i]? with
        | none => simp only [ho] at h
        | some o =>
          have hm := List.mem_of_getElem? ho
          cases hf1 : Region.free .any ops.toArray listed i with
          | false => simp only [ho, hf1] at h
          | true =>
            cases hf2 : (x :: l).contains i with
            | false => simp only [ho, hf1, hf2] at h
            | true =>
              simp only [ho, hf1, hf2] at h ⊢
              refine guardK_agree (fun ρ' hs h => ?_) (fun ρ' hs h => vcDraw_agree hk hl S held n _ _ _ (hput o ρ' undef hm hs) h) h
              cases hh : heldRd P o.op <;> simp only [hh] at h ⊢
              · exact rdOp_mono (fun v hv => vcDraw_agree hk hl S held n _ _ _ (hput o ρ' v hm hs) hv) h
              · exact rdOp_mono (fun v hv => vcDraw_agree hk hl S _ n _ _ _ (hput o ρ' v hm hs) hv) h
      | none =>
        simp only [hf] at h ⊢
        refine conjL_mono (fun i hi => ?_) h
        cases ho : ops[i]? with
        | none => simp only [ho] at hi
        | some o =>
          have hm := List.mem_of_getElem? ho
          simp only [ho] at hi ⊢
          refine guardK_agree (fun ρ' hs h => efOp_mono (fun v w' h => ?_) h) (fun ρ' hs h => vcDraw_agree hk hl S held n _ _ _ (hput o ρ' undef hm hs) h) hi
          cases hc : cov ops i held <;> simp only [hc] at h ⊢
          · obtain ⟨S', h1, h2, h3⟩ := h
            exact ⟨S', h1, h2, vcDraw_agree hk hl S' _ n _ _ _ (hput o ρ' v hm hs) h3⟩
          · obtain ⟨S', h2, h3⟩ := h
            exact ⟨S', h2, vcDraw_agree hk hl S' _ n _ _ _ (hput o ρ' v hm hs) h3⟩

def psOk (N : Nat) : List Nat → Bool
  | [] => true
  | p :: ps => Nat.blt p N && psOk N ps

def noRange : Code → Bool
  | .seq a b => noRange a && noRange b
  | .cond _ a b => noRange a && noRange b
  | .block _ c | .loop c | .scope c => noRange c
  | .rangeFunc .. => false
  | _ => true

theorem mem_writes_region {ops : Array Oper} {id : Nat} {b : Bool} : ∀ o ∈ ops.toList, ∀ x, o.dst = some x → x ∈ writes (.region id ops b) := fun o ho x hx =>
  List.mem_filterMap.2 ⟨o, ho, hx⟩

theorem memN_iff {l : List Nat} {i : Nat} : memN l i = true ↔ i ∈ l := by
  induction l with
  | nil => simp [memN]
  | cons x l ih =>
    unfold memN
    split
    · rename_i hb; simp [Nat.eq_of_beq_eq_true hb]
    · rename_i hb
      have hne : i ≠ x := fun e => by subst e; simp at hb
      simp [ih, hne]

theorem mix_agree (ws : List Nat) (g ρ : Env) : Agree ws ρ (mix ws g ρ) := fun i hi => by
  have : memN ws i = false := by
    cases h : memN ws i
    · rfl
    · exact absurd (memN_iff.1 h) hi
  simp [mix, this]

theorem getV_mono {k : Kd} {v : Value} {F G : k.T → Prop} (hm : ∀ x, F x → G x) (h : getV k v F) : getV k v G := by
  cases k <;> cases v <;> first
    | exact hm _ h
    | exact h
    | exact kEq_mono (hm _) h
    | exact optK_mono hm h

theorem getK_mono : ∀ {l : List (Nat × Kd)} {ρ : Env} {F G : Slots l → Prop}, (∀ s, F s → G s) → getK l ρ F → getK l ρ G
  | [], _, _, _, hm, h => hm _ h
  | _ :: l, _, _, _, hm, h => getV_mono (fun _ hx => getK_mono (l := l) (fun _ hs => hm _ hs) hx) h

theorem getV_of {k : Kd} {v : Value} {F : k.T → Prop} (h : getV k v F) : ∃ x, F x ∧ k.toV x = v := by
  cases k <;> cases v <;> first
    | (obtain ⟨rfl, h'⟩ := kEq_of h; exact ⟨_, h', rfl⟩)
    | (obtain ⟨x, rfl, h'⟩ := optK_of h; exact ⟨x, h', rfl⟩)
    | exact (h : False).elim
    | exact ⟨_, h, rfl⟩

theorem getK_of : ∀ {l : List (Nat × Kd)} {ρ : Env} {F : Slots l → Prop}, getK l ρ F → ∃ s, F s ∧ ∀ i, putK l s ρ i = ρ i
  | [], _, _, h => ⟨(), h, fun _ => rfl⟩
  | x :: l, ρ, F, h => by
    obtain ⟨v, h, hv⟩ := getV_of h
    obtain ⟨s, h, hs⟩ := getK_of h
    refine ⟨(v, s), h, fun i => ?_⟩
    simp only [putK]
    by_cases e : i = x.1
    · subst e; rw [upd_same, hv]
    · rw [upd_other e, hs i]

theorem LoopT_mono {σ : Type} {step step' : σ → World → (σ → World → Prop) → Prop} (hm : ∀ s w K, step s w K → step' s w K) {s : σ} {w : World} (h : LoopT step s w) : LoopT step' s w := by
  obtain ⟨I, n, hI, hst⟩ := h
  exact ⟨I, n, hI, fun n s w' h => hm _ _ _ (hst n s w' h)⟩

theorem vc_agree {P : Program} {E : List (Nat × TypeId)} {N : Nat} {ann : Ann} : ∀ (c : Code) (ws : List Nat) (ρ0 : Env) (Q Q' : Post) (ρ : Env) (w : World), noRange c = true → (∀ i, i ∈ writes c → i ∈ ws) → Agree ws ρ0 ρ →
    (∀ ρ w, Agree ws ρ0 ρ → Q.nrm ρ w → Q'.nrm ρ w) → (∀ ρ w, Agree ws ρ0 ρ → Q.ret ρ w → Q'.ret ρ w) → (∀ i ρ w, Agree ws ρ0 ρ → Q.exit i ρ w → Q'.exit i ρ w) → vc P E N ann c Q ρ w → vc P E N ann c Q' ρ w := by
  intro c
  induction c with
  | skip => intro ws ρ0 Q Q' ρ w _ _ ha h1 _ _ h; exact h1 _ _ ha h
  | region id ops b =>
    intro ws ρ0 Q Q' ρ w _ hw ha h1 _ _ h
    cases b with
    | false =>
      simp only [vc] at *
      exact vcOps_agree h1 ops.toList ρ w (fun o ho x hx => hw x (mem_writes_region (id := id) (b := false) o ho x hx)) ha h
    | true =>
      simp only [vc] at *
      obtain ⟨S, hS, h⟩ := h
      exact ⟨S, hS, vcDraw_agree h1 (fun o ho x hx => hw x (mem_writes_region (id := id) (b := true) o ho x hx)) _ _ _ _ _ _ ha h⟩
  | seq a b iha ihb =>
    intro ws ρ0 Q Q' ρ w hr hw ha h1 h2 h3 h
    simp only [noRange, Bool.and_eq_true] at hr
    simp only [vc] at *
    exact iha ws ρ0 ⟨fun ρ w => vc P E N ann b Q ρ w, Q.ret, Q.exit⟩ ⟨fun ρ w => vc P E N ann b Q' ρ w, Q'.ret, Q'.exit⟩ ρ w hr.1 (fun i hi => hw i (List.mem_append_left _ hi)) ha
      (fun ρ w ha h => ihb ws ρ0 Q Q' ρ w hr.2 (fun i hi => hw i (List.mem_append_right _ hi)) ha h1 h2 h3 h) h2 h3 h
  | cond x a b iha ihb =>
    intro ws ρ0 Q Q' ρ w hr hw ha h1 h2 h3 h
    simp only [noRange, Bool.and_eq_true] at hr
    simp only [vc] at *
    split <;> simp_all only
    exact brc_mono (iha ws ρ0 Q Q' ρ w trivial (fun i hi => hw i (List.mem_append_left _ hi)) ha h1 h2 h3) (ihb ws ρ0 Q Q' ρ w trivial (fun i hi => hw i (List.mem_append_right _ hi)) ha h1 h2 h3) h
  | block id c ih =>
    intro ws ρ0 Q Q' ρ w hr hw ha h1 h2 h3 h
    simp only [vc] at *
    refine ih ws ρ0 ⟨Q.nrm, Q.ret, fun i ρ w => match Nat.beq i id with | true => Q.nrm ρ w | false => Q.exit i ρ w⟩ ⟨Q'.nrm, Q'.ret, fun i ρ w => match Nat.beq i id with | true => Q'.nrm ρ w | false => Q'.exit i ρ w⟩ ρ w hr hw ha h1 h2 (fun i ρ w ha h => ?_) h
    dsimp only at *
    cases hb : Nat.beq i id <;> simp only [hb] at h ⊢
    · exact h3 _ _ _ ha h
    · exact h1 _ _ ha h
  | loop c ih =>
    intro ws ρ0 Q Q' ρ w hr hw ha h1 h2 h3 h
    simp only [vc] at *
    refine getK_mono (fun s h => LoopT_mono (fun s w K h g => ?_) h) h
    exact ih ws ρ0 ⟨_, Q.ret, Q.exit⟩ ⟨_, Q'.ret, Q'.exit⟩ _ w hr hw (ha.trans ((mix_agree (writes c) _ ρ).mono hw)) (fun _ _ _ h => h) h2 h3 (h g)
  | exit id => intro ws ρ0 Q Q' ρ w _ _ ha _ _ h3 h; exact h3 _ _ _ ha h
  | scope c ih => intro ws ρ0 Q Q' ρ w _ _ _ _ _ _ h; exact h.elim
  | label l => intro ws ρ0 Q Q' ρ w _ _ ha h1 _ _ h; exact h1 _ _ ha h
  | goto l => intro ws ρ0 Q Q' ρ w _ _ _ _ _ _ h; exact h.elim
  | ret => intro ws ρ0 Q Q' ρ w _ _ ha _ h2 _ h; exact h2 _ _ ha h
  | refuse y => intro ws ρ0 Q Q' ρ w _ _ _ _ _ _ h; exact h.elim
  | rangeFunc f ps asg b => intro ws ρ0 Q Q' ρ w hr; cases hr

theorem Shows.of_eq {N : Nat} {a : Act} {ρ ρ' : Env} (h : Shows N a ρ) (he : ∀ i, ρ' i = ρ i) : Shows N a ρ' := ⟨h.size, fun i hi => by rw [he i]; exact h.get i hi, by rw [he N]; exact h.defers⟩

theorem postOf_then {N : Nat} {Q : Post} {nrm : Env → World → Prop} {next : Act → World → Prop} (hn : ∀ ρ w a, Shows N a ρ → nrm ρ w → next a w) :
    ∀ e a w, postOf N ⟨nrm, Q.ret, Q.exit⟩ e a w → Exit.then next (postOf N Q) e a w := by
  intro e a w h
  cases e with
  | normal => obtain ⟨ρ, hs, h⟩ := h; exact hn ρ w a hs h
  | _ => exact h

/-- A loop: an invariant that bears a number, which every round lowers. -/
theorem wpIn_loop_ghost {F : Fence} {n : Nat} {P : Program} {Q : Exit → Act → World → Prop} {a : Act} {w : World} {c : Code} (I : Nat → Act → World → Prop) (n₀ : Nat) (h₀ : I n₀ a w)
    (round : ∀ k a w, I k a w → c.wpIn F n P (Exit.then (fun a' w' => ∃ n', n' < k ∧ I n' a' w') Q) a w) : (Code.loop c).wpIn F n P Q a w := by
  refine wpIn_loop (fun a w => ∃ n, I n a w) (fun a w => leastOf (fun n => I n a w)) ⟨n₀, h₀⟩ ?_
  intro a w hI
  refine wpIn_mono (round _ a w (leastOf_spec hI).1) ?_
  intro e a' w' hq
  cases e with
  | normal =>
    obtain ⟨n', hlt, hI'⟩ := hq
    exact show (∃ n, I n a' w') ∧ leastOf (fun n => I n a' w') < leastOf (fun n => I n a w) from ⟨⟨n', hI'⟩, Nat.lt_of_le_of_lt ((leastOf_spec ⟨n', hI'⟩).2 n' hI') hlt⟩
  | exit id => exact hq
  | goto l => exact hq
  | ret => exact hq
  | panic ch => exact hq
  | outgrown => exact hq

/-- Loops, and rounds, without a range over a function within, under a check on each. -/
def loopsOk (N : Nat) : Code → Bool
  | .seq a b | .cond _ a b => loopsOk N a && loopsOk N b
  | .block _ c | .scope c => loopsOk N c
  | .loop c => noRange c && loopsOk N c
  | .rangeFunc g ps a b => operandOk N g && psOk N ps.toList && noRange a && noRange b && codeOk N a && codeOk N b && loopsOk N a && loopsOk N b
  | _ => true

theorem setPs_shows {P : Program} {E : List (Nat × TypeId)} {N : Nat} {K : List Value → Env → Prop} : ∀ (ps : List Nat) (ρ : Env) (tmps : Array Value), psOk N ps = true → tmps.size = N → (∀ i, i < N → tmps.getD i undef = ρ i) → ρ N = undef →
    (∀ args ρ', args.length = ps.length → Shows N { tmps := (ps.zip args).foldl (fun tmps (t, a) => tmps.setIfInBounds t a) tmps, defers := [] } ρ' → K args ρ') → allArgs P E ps ρ K
  | [], ρ, tmps, _, hs, hg, hN, h => h [] ρ rfl ⟨hs, hg, by rw [hN]; rfl⟩
  | p :: ps, ρ, tmps, hok, hs, hg, hN, h => by
    simp only [psOk, Bool.and_eq_true] at hok
    have hp : p < N := Nat.blt_eq ▸ hok.1
    unfold allArgs
    split
    · refine allTy_of fun v => ?_
      refine setPs_shows ps (upd ρ p v) (tmps.setIfInBounds p v) hok.2 (by simp [hs]) (fun i hi => ?_) (by rw [upd_other (Nat.ne_of_gt hp)]; exact hN) fun args ρ' hl hsh => h (v :: args) ρ' (by simp [hl]) hsh
      by_cases e : i = p
      · subst e
        rw [upd_same]
        simp [hs, hi]
      · rw [upd_other e, ← hg i hi]
        simp [Array.getElem?_setIfInBounds_ne (Ne.symm e)]
    · trivial

theorem vc_sound {P : Program} {E : List (Nat × TypeId)} {N : Nat} {ann : Ann} (hm : P.follows .mixedOrders = true) : ∀ (c : Code) (r : Option Nat) (Q : Post) (ρ : Env) (w : World) (a : Act), (r = none ∨ noRange c = true) → codeOk N c = true → loopsOk N c = true → Shows N a ρ → vc P E N ann c Q ρ w → c.wpIn (Fr r) 0 P (postOf N Q) a w := by
  intro c
  induction c with
  | skip => intro r Q ρ w a _ _ _ hs h; exact wpIn_skip ⟨ρ, hs, h⟩
  | region id ops b =>
    intro r Q ρ w a _ hok _ hs h
    have hok' : ops.toList.all (operOk N) = true := hok
    cases b with
    | false =>
      refine wpIn_region_list ?_
      exact vcOps_sound hok' ops.toList ρ w a Q.nrm _ (List.all_eq_true.1 hok') hs h (fun ρ w a hs hk => ⟨ρ, hs, hk⟩)
    | true =>
      obtain ⟨S, hS, h⟩ := h
      refine wpIn_region_any hm (wpAny_of_D _ _ [] S _ _ ?_)
      have := vcDraw_sound (r := r) (Q := postOf N Q) hok' (fun ρ w a hs hk => ⟨ρ, hs, hk⟩) (fun c a w h => h) _ _ _ _ ρ _ a hs hS h
      simpa using this
  | seq x y ihx ihy =>
    intro r Q ρ w a hr hok hl hs h
    simp only [codeOk, loopsOk, noRange, Bool.and_eq_true] at hok hl hr
    refine wpIn_seq (wpIn_mono (ihx r _ ρ w a (hr.imp id (·.1)) hok.1 hl.1 hs h) ?_)
    exact postOf_then (Q := Q) fun ρ w a hs h => ihy r Q ρ w a (hr.imp id (·.2)) hok.2 hl.2 hs h
  | cond x y z ihy ihz =>
    intro r Q ρ w a hr hok hl hs h
    simp only [codeOk, loopsOk, noRange, Bool.and_eq_true] at hok hl hr
    simp only [vc] at h
    split at h
    · rename_i t ht
      have he : a.eval x = .bool t := by rw [hs.ev hok.1.1, ht]
      refine wpIn_cond_split he (fun h1 => ?_) (fun h1 => ?_)
      · subst h1; exact ihy r Q ρ w a (hr.imp id (·.1)) hok.1.2 hl.1 hs h
      · subst h1; exact ihz r Q ρ w a (hr.imp id (·.2)) hok.2 hl.2 hs h
    · exact h.elim
  | block id c ih =>
    intro r Q ρ w a hr hok hl hs h
    simp only [vc] at h
    refine wpIn_block (wpIn_mono (ih r _ ρ w a hr hok hl hs h) fun e a w h => ?_)
    cases e with
    | exit i =>
      obtain ⟨ρ, hs, h⟩ := h
      simp only [Exit.inBlock]
      by_cases hi : i = id
      · subst hi
        rw [if_pos rfl]
        simp at h
        exact ⟨ρ, hs, h⟩
      · rw [if_neg hi]
        have hb : Nat.beq i id = false := by
          cases hb : Nat.beq i id
          · rfl
          · exact absurd (Nat.eq_of_beq_eq_true hb) hi
        simp only [hb] at h
        exact ⟨ρ, hs, h⟩
    | _ => exact h
  | loop c ih =>
    intro r Q ρ w a hr hok hl hs h
    simp only [loopsOk, Bool.and_eq_true] at hl
    obtain ⟨s0, ⟨I, n, hI, hst⟩, hs0⟩ := getK_of h
    have hmix : ∀ g, Agree (writes c) ρ g → ∀ i, mix (writes c) g ρ i = g i := fun g hg i => by
      unfold mix
      cases hb : memN (writes c) i with
      | true => rfl
      | false => exact (hg i (fun hm => by rw [memN_iff.2 hm] at hb; cases hb)).symm
    refine wpIn_loop_ghost (fun n a w => ∃ g s, Shows N a (mix (writes c) g ρ) ∧ I n s w ∧ ∀ i, putK _ s g i = g i) n ⟨ρ, s0, hs.of_eq (hmix ρ (Agree.refl _ _)), hI, hs0⟩ ?_
    rintro n a w ⟨g, s, hs, hg, hput⟩
    have h1 := hst n s w hg g
    have hgg : putK (annOf ann (firstRegion c)) s g = g := funext hput
    rw [hgg] at h1
    have h2 := vc_agree (P := P) (E := E) (N := N) c (writes c) ρ ⟨fun ρ'' w'' => getK (annOf ann (firstRegion c)) ρ'' fun s' => ∃ n', n' < n ∧ I n' s' w'', Q.ret, Q.exit⟩ ⟨fun ρ'' w'' => Agree (writes c) ρ ρ'' ∧ getK (annOf ann (firstRegion c)) ρ'' fun s' => ∃ n', n' < n ∧ I n' s' w'', Q.ret, Q.exit⟩ (mix (writes c) g ρ) w hl.1 (fun _ h => h) (mix_agree _ _ _)
      (fun _ _ ha h => ⟨ha, h⟩) (fun _ _ _ h => h) (fun _ _ _ _ h => h) h1
    refine wpIn_mono (ih r _ _ w a (.inr hl.1) hok hl.2 hs h2) ?_
    refine postOf_then (Q := Q) fun ρ'' w a hs ⟨ha, hk⟩ => ?_
    obtain ⟨s', ⟨n', hlt, hI⟩, hs'⟩ := getK_of hk
    exact ⟨n', hlt, ρ'', s', hs.of_eq (hmix ρ'' ha), hI, hs'⟩
  | exit id => intro r Q ρ w a _ _ _ hs h; exact wpIn_exit ⟨ρ, hs, h⟩
  | scope c ih => intro r Q ρ w a _ _ _ hs h; exact h.elim
  | label l => intro r Q ρ w a _ _ _ hs h; exact wpIn_label ⟨ρ, hs, h⟩
  | goto l => intro r Q ρ w a _ _ _ hs h; exact h.elim
  | ret => intro r Q ρ w a _ _ _ hs h; exact wpIn_ret ⟨ρ, hs, h⟩
  | refuse y => intro r Q ρ w a _ _ _ hs h; exact h.elim
  | rangeFunc g ps asg b iha ihb =>
    intro r Q ρ w a hr _ hl hs h
    rcases hr with rfl | hr
    case inr => cases hr
    simp only [loopsOk, Bool.and_eq_true] at hl
    obtain ⟨⟨⟨⟨⟨⟨⟨hl1, hl2⟩, hl3⟩, hl4⟩, hl5⟩, hl6⟩, hl7⟩, hl8⟩ := hl
    simp only [vc] at h
    unfold rangeV at h
    split at h
    case h_2 => exact h.elim
    rename_i gf first lb hg
    obtain ⟨hp, h⟩ := h
    have hev : a.eval g = .func (.func gf) first lb := by rw [hs.ev hl1, hg]
    refine wpIn_rangeFunc fun fn _ => ?_
    let X : LB := ⟨fn, a.tmps, ps, asg, b⟩
    let w1 := (w.alloc (.deferred (some []))).alloc (X.loop w.heap.size .ready none)
    refine ⟨w.heap.size + 1, [{ target := .collected w.heap.size, args := #[] }], w1, { target := .fn (.func gf) lb, args := first ++ #[Value.func (.yield (w.heap.size + 1)) #[] #[]] }, w1, gf, (first.toList ++ [Value.func (.yield (w.heap.size + 1)) #[] #[]] ++ lb.toList).toArray, w1, run_enterLoop_outer _ _ _ _ _, ?_, fun _ _ => trivial, ?_, (fun h => by cases h), ?_⟩
    · simp only [resolve, hev, Deferred.ofValue]
      simp
      rfl
    · have he : (first.toList ++ [Value.func (.yield (w.heap.size + 1)) #[] #[]] ++ lb.toList).toArray = (first ++ #[Value.func (.yield (w.heap.size + 1)) #[] #[]]) ++ lb := by
        apply Array.ext'
        simp
      rw [he]
      simp only [invoke]
      exact callFunc_plain hp _ _
    · have hc := h X (w.heap.size + 1) w.heap.size w1 ⟨rfl, rfl, rfl⟩ ?_
      · refine CallsIn.mono (F := Fr none) ((callsIn_wide (n := 0)).2 hc) ?_
        rintro e w3 ⟨⟨v, rfl⟩, st, pe, hl, hst, hm⟩
        have hsh : Shows N { a with defers := [{ target := .collected w.heap.size, args := #[] }] ++ a.defers } (upd ρ N (mark (ρ N) w.heap.size)) := by
          refine ⟨hs.size, fun i hi => by rw [upd_other (Nat.ne_of_lt hi)]; exact hs.get i hi, ?_⟩
          rw [upd_same]
          show _ :: a.defers = _
          rw [hs.defers]
          unfold mark
          split
          · rename_i vs hv
            rw [hv]
            simp [dsOf, markOf]
          · rename_i hn
            have : dsOf (ρ N) = [] := by
              unfold dsOf
              split
              · rename_i vs hv; exact absurd hv (hn vs)
              · rfl
            rw [this]
            simp [dsOf, markOf]
        refine ⟨pe, _, run_endLoop hl (by simpa using hst), ?_⟩
        cases pe with
        | none => exact ⟨_, hsh, hm⟩
        | some c =>
          cases c with
          | ret => exact wpIn_ret ⟨_, hsh, hm⟩
          | exit id =>
            cases hx : exitsOut [] b with
            | true =>
              rw [hx] at hm
              exact wpIn_exit ⟨_, hsh, hm⟩
            | false =>
              rw [hx] at hm
              exact (hm : False).elim
          | _ => exact hm.elim
      · refine setPs_shows ps.toList (upd ρ N undef) a.tmps hl2 hs.size (fun i hi => by rw [upd_other (Nat.ne_of_lt hi)]; exact hs.get i hi) (upd_same _ _ _) fun args ρ' hlen hsh w' R hB => ⟨by simpa using hlen, ?_⟩
        have hz : (ps.zip args.toArray).foldl (fun tmps (t, a) => tmps.setIfInBounds t a) a.tmps = (ps.toList.zip args).foldl (fun tmps (t, a) => tmps.setIfInBounds t a) a.tmps := by
          rw [← Array.foldl_toList]
          simp
        show asg.wpIn _ 0 P _ { tmps := (ps.zip args.toArray).foldl (fun tmps (t, a) => tmps.setIfInBounds t a) a.tmps, defers := [] } w'
        rw [hz]
        refine wpIn_mono (iha (some (w.heap.size + 1)) _ ρ' w' _ (.inr hl3) hl5 hl7 hsh hB) ?_
        intro e a1 w1 hq
        cases e with
        | normal =>
          obtain ⟨ρ1, hs1, w2, hb, hq⟩ := hq
          refine ⟨w2, hb, wpIn_mono (ihb (some (w.heap.size + 1)) _ ρ1 w2 a1 (.inr hl4) hl6 hl8 hs1 hq) ?_⟩
          intro e a2 w3 hq
          cases e with
          | normal => obtain ⟨_, _, hq⟩ := hq; exact hq
          | ret => obtain ⟨_, _, hq⟩ := hq; exact hq
          | exit i => obtain ⟨_, _, hq⟩ := hq; exact hq
          | _ => exact hq
        | ret => obtain ⟨_, _, hq⟩ := hq; exact hq
        | exit i => obtain ⟨_, _, hq⟩ := hq; exact hq
        | _ => exact hq

end Go.Proofs.Ytonjaaljnjjjcaa

/- A call out of 'vc' of its body. Conditions: the program follows mixed orders; the checks on the code. -/
set_option linter.unusedVariables false
set_option linter.unusedSimpArgs false
namespace Go.Proofs.Ytonjaaljnjjjcaa
open Go

def envL : List Value → Env
  | [], _ => undef
  | v :: _, 0 => v
  | _ :: l, i + 1 => envL l i

def resL (P : Program) (w : World) : List ResultVar → Env → (List Value → Prop) → Prop
  | [], _, K => K []
  | .tmp t :: rs, ρ, K => resL P w rs ρ fun vs => K (ρ t :: vs)
  | .cell a t :: rs, ρ, K => match ρ a with
    | .pointer (some p) => exTy P t fun v => At P w (loadVar t p) v ∧ resL P w rs ρ fun vs => K (v :: vs)
    | _ => False

def oneOf : List Value → Value
  | [] => .tuple #[]
  | [v] => v
  | vs => .tuple vs.toArray

def resOk (N : Nat) : List ResultVar → Bool
  | [] => true
  | .tmp t :: rs => Nat.blt t N && resOk N rs
  | .cell a _ :: rs => Nat.blt a N && resOk N rs

def resF (tmps : Array Value) : ResultVar → Sem Value
  | .tmp t => pure (tmps.getD t undef)
  | .cell x t => do loadVar t (← asAddr (tmps.getD x undef))

theorem resL_sound {P : Program} {N : Nat} {w : World} {a : Act} {ρ : Env} (hs : Shows N a ρ) : ∀ (rs : List ResultVar) (K : List Value → Prop), resOk N rs = true → resL P w rs ρ K →
    ∃ vs, (rs.mapM (resF a.tmps)).run P w = .ok vs w ∧ K vs
  | [], K, _, h => ⟨[], by simp, h⟩
  | .tmp t :: rs, K, hok, h => by
    simp only [resOk, Bool.and_eq_true] at hok
    obtain ⟨vs, hr, hk⟩ := resL_sound hs rs _ hok.2 h
    have ht := hs.get t (Nat.blt_eq ▸ hok.1 : t < N)
    have he : (resF a.tmps (.tmp t)).run P w = .ok (ρ t) w := by simp only [resF, Sem.run_pure, ht]
    exact ⟨_, by simp only [List.mapM_cons, Sem.run_bind, he, hr, Result.andThen_ok, Sem.run_pure], hk⟩
  | .cell x t :: rs, K, hok, h => by
    simp only [resOk, Bool.and_eq_true] at hok
    have ht := hs.get x (Nat.blt_eq ▸ hok.1 : x < N)
    simp only [resL] at h
    split at h
    · rename_i p hp
      obtain ⟨v, hv, h⟩ := exTy_ex h
      obtain ⟨vs, hr, hk⟩ := resL_sound hs rs _ hok.2 h
      have hv' : (loadVar t p).run P w = .ok v w := hv
      have he : (resF a.tmps (.cell x t)).run P w = .ok v w := by simp only [resF, ht, hp, asAddr, Sem.run_bind, Sem.run_pure, Result.andThen_ok, hv']
      exact ⟨_, by simp only [List.mapM_cons, Sem.run_bind, he, hr, Result.andThen_ok, Sem.run_pure], hk⟩
    · exact h.elim

theorem results_sound {P : Program} {N : Nat} {w : World} {a : Act} {ρ : Env} (hs : Shows N a ρ) {fn : Func} {K : Value → Prop} (hok : resOk N fn.results.toList = true) (h : resL P w fn.results.toList ρ fun vs => K (oneOf vs)) :
    ∃ v, (results fn a.tmps).run P w = .ok v w ∧ K v := by
  obtain ⟨vs, hr, hk⟩ := resL_sound hs _ _ hok h
  refine ⟨_, ?_, hk⟩
  have he : results fn a.tmps = (do
    let vs ← fn.results.mapM (resF a.tmps)
    pure (if h : vs.size = 1 then vs[0] else .tuple vs)) := rfl
  rw [he, Array.mapM_eq_mapM_toList]
  simp only [Sem.run_bind, Sem.run_map, hr, Result.andThen_ok, Sem.run_pure]
  congr 1
  match vs with
  | [] => rfl
  | [v] => rfl
  | v :: u :: l => simp [oneOf]

theorem envL_none : ∀ (l : List Value) (n : Nat), l.length ≤ n → envL l n = undef
  | [], n, _ => by cases n <;> rfl
  | _ :: l, 0, h => by simp at h
  | _ :: l, n + 1, h => envL_none l n (by simpa using h)

theorem shows_enter {args : List Value} {n : Nat} (hn : args.length ≤ n) :
    Shows n { tmps := args.toArray ++ Array.replicate (n - args.toArray.size) undef, defers := [] } (envL args) := by
  refine ⟨by simp; omega, fun i hi => ?_, by rw [envL_none _ _ hn]; rfl⟩
  have h1 : ∀ (l : List Value) (i : Nat), envL l i = l.getD i undef := by
    intro l
    induction l with
    | nil => intro i; rfl
    | cons v l ih =>
      intro i
      cases i with
      | zero => rfl
      | succ i => simp [envL, ih]
  rw [h1]
  simp only [Array.getD_eq_getD_getElem?, Array.getElem?_append, List.getD_eq_getElem?_getD]
  split
  · simp
  · rename_i hlt
    have : args.length ≤ i := by simpa using hlt
    rw [List.getElem?_eq_none this]
    simp [Array.getElem?_replicate]
    split <;> rfl

/-- The marks that a function leaves with: each block for deferred calls is empty, and is shut. -/
def endMark1 (v : Value) (w : World) (K : World → Prop) : Prop := match v with
  | .int _ n => w.heap[n.toNat]? = some (.deferred (some [])) ∧ K (w.putObj n.toNat (.deferred none))
  | _ => False
def endMarks : List Value → World → (World → Prop) → Prop
  | [], w, K => K w
  | v :: l, w, K => endMark1 v w fun w => endMarks l w K
def endV (v : Value) (w : World) (K : World → Prop) : Prop := match v with
  | .tuple vs => endMarks vs.toList w K
  | _ => K w

theorem leaves_of {P : Program} {fn : Func} {tmps : Array Value} {R : Ending → World → Prop} : ∀ (l : List Value) (w : World), endMarks l w (fun w => ∃ v, (results fn tmps).run P w = .ok v w ∧ R (.returned v) w) → LeavesInM (Fr none) 0 P fn tmps R (l.map markOf) .returning w
  | [], w, h => h
  | v :: l, w, h => by
    simp only [endMarks, endMark1] at h
    split at h
    · rename_i n
      exact ⟨by simp, .inl ⟨n.toNat, _, rfl, run_takeDeferred h.1, leaves_of l _ h.2⟩⟩
    · exact h.elim

theorem leaves_end {P : Program} {fn : Func} {tmps : Array Value} {R : Ending → World → Prop} {v : Value} {w : World} (h : endV v w (fun w => ∃ v, (results fn tmps).run P w = .ok v w ∧ R (.returned v) w)) : LeavesInM (Fr none) 0 P fn tmps R (dsOf v) .returning w := by
  cases v with
  | tuple vs => exact leaves_of _ _ h
  | _ => exact h

theorem endMarks_mono {K K' : World → Prop} (hm : ∀ w, K w → K' w) : ∀ (l : List Value) (w : World), endMarks l w K → endMarks l w K'
  | [], _, h => hm _ h
  | v :: l, w, h => by
    simp only [endMarks, endMark1] at *
    split at h
    · exact ⟨h.1, endMarks_mono hm _ _ h.2⟩
    · exact h.elim

theorem endV_mono {K K' : World → Prop} (hm : ∀ w, K w → K' w) {v : Value} {w : World} (h : endV v w K) : endV v w K' := by
  cases v with
  | tuple vs => exact endMarks_mono hm _ _ h
  | _ => exact hm _ h

/-- The contract of a function with ranges over functions, out of 'vc' of its body. -/
theorem calls_of_vcR {P : Program} {f : FuncId} {fn : Func} {c : Code} {args : List Value} {w : World} {R : Ending → World → Prop} {ann : Ann} {E : List (Nat × TypeId)} (hm : P.follows .mixedOrders = true)
    (hf : P.funcs[f]? = some fn) (hb : fn.body = some c)
    (hok : (codeOk fn.ntmps c && loopsOk fn.ntmps c && resOk fn.ntmps fn.results.toList && Nat.ble args.length fn.ntmps) = true)
    (h : vc P E fn.ntmps ann c ⟨fun ρ w => endV (ρ fn.ntmps) w fun w => resL P w fn.results.toList ρ fun vs => R (.returned (oneOf vs)) w, fun ρ w => endV (ρ fn.ntmps) w fun w => resL P w fn.results.toList ρ fun vs => R (.returned (oneOf vs)) w, fun _ _ _ => False⟩ (envL args) w) :
    Calls P f args.toArray w R := by
  simp only [Bool.and_eq_true] at hok
  obtain ⟨⟨⟨h1, h2⟩, h3⟩, h4⟩ := hok
  refine callsIn_wide.1 (callsIn_of_wp_marks (F := Fr none) (n := 0) hf hb trivial (wpIn_mono (vc_sound hm c none _ _ _ _ (.inl rfl) h1 h2 (shows_enter (Nat.le_of_ble_eq_true h4)) h) fun e a w h => ?_))
  have fin : ∀ ρ : Env, Shows fn.ntmps a ρ → (endV (ρ fn.ntmps) w fun w => resL P w fn.results.toList ρ fun vs => R (.returned (oneOf vs)) w) → LeavesInM (Fr none) 0 P fn a.tmps R a.defers .returning w := by
    intro ρ hs h
    rw [hs.defers]
    exact leaves_end (endV_mono (fun w h => results_sound (K := fun v => R (.returned v) w) hs h3 h) h)
  cases e with
  | normal => obtain ⟨ρ, hs, h⟩ := h; exact fin ρ hs h
  | ret => obtain ⟨ρ, hs, h⟩ := h; exact fin ρ hs h
  | exit i => obtain ⟨ρ, hs, h⟩ := h; exact h.elim
  | goto l => exact h.elim
  | panic c => exact h.elim
  | outgrown => exact h.elim

theorem writes_lt {N : Nat} : ∀ c : Code, codeOk N c = true → ∀ i ∈ writes c, i < N := by
  intro c
  induction c with
  | region id ops b =>
    intro h i hi
    obtain ⟨o, ho, hd⟩ := List.mem_filterMap.1 hi
    exact operOk_dst (List.all_eq_true.1 h o ho) i hd
  | seq a b iha ihb =>
    intro h i hi
    simp only [codeOk, Bool.and_eq_true] at h
    rcases List.mem_append.1 hi with hi | hi
    · exact iha h.1 i hi
    · exact ihb h.2 i hi
  | cond x a b iha ihb =>
    intro h i hi
    simp only [codeOk, Bool.and_eq_true] at h
    rcases List.mem_append.1 hi with hi | hi
    · exact iha h.1.2 i hi
    · exact ihb h.2 i hi
  | block id c ih => intro h i hi; exact ih h i hi
  | loop c ih => intro h i hi; exact ih h i hi
  | scope c ih => intro h i hi; exact ih h i hi
  | _ => intro _ i hi; simp [writes] at hi

/-- The contract of a function, out of 'vc' of its body. -/
theorem calls_of_vc {P : Program} {f : FuncId} {fn : Func} {c : Code} {args : List Value} {w : World} {R : Ending → World → Prop} {ann : Ann} {E : List (Nat × TypeId)} (hm : P.follows .mixedOrders = true)
    (hf : P.funcs[f]? = some fn) (hb : fn.body = some c)
    (hok : (codeOk fn.ntmps c && loopsOk fn.ntmps c && noRange c && resOk fn.ntmps fn.results.toList && Nat.ble args.length fn.ntmps) = true)
    (h : vc P E fn.ntmps ann c ⟨fun ρ w => resL P w fn.results.toList ρ fun vs => R (.returned (oneOf vs)) w, fun ρ w => resL P w fn.results.toList ρ fun vs => R (.returned (oneOf vs)) w, fun _ _ _ => False⟩ (envL args) w) :
    Calls P f args.toArray w R := by
  simp only [Bool.and_eq_true] at hok
  obtain ⟨⟨⟨⟨h1, h2⟩, hn⟩, h3⟩, h4⟩ := hok
  refine calls_of_vcR (ann := ann) (E := E) hm hf hb (by simp [h1, h2, h3, h4]) ?_
  have hN : ∀ ρ : Env, Agree (writes c) (envL args) ρ → ρ fn.ntmps = undef := fun ρ ha => by
    rw [ha fn.ntmps fun hi => Nat.lt_irrefl _ (writes_lt c h1 _ hi)]
    exact envL_none _ _ (Nat.le_of_ble_eq_true h4)
  refine vc_agree c (writes c) (envL args) ⟨fun ρ w => resL P w fn.results.toList ρ fun vs => R (.returned (oneOf vs)) w, fun ρ w => resL P w fn.results.toList ρ fun vs => R (.returned (oneOf vs)) w, fun _ _ _ => False⟩ _ _ w hn (fun _ h => h) (Agree.refl _ _) (fun ρ w ha h => ?_) (fun ρ w ha h => ?_) (fun _ _ _ _ h => h) h
  · show endV (ρ fn.ntmps) w _
    rw [hN ρ ha]; exact h
  · show endV (ρ fn.ntmps) w _
    rw [hN ρ ha]; exact h

end Go.Proofs.Ytonjaaljnjjjcaa

/- The program, and that its regions are drawn under mixed orders. -/
set_option linter.unusedVariables false
set_option linter.unusedSimpArgs false
namespace Go.Proofs.Ytonjaaljnjjjcaa
open Go
noncomputable abbrev Pr : Program := Try.prog
theorem follows : Pr.follows .mixedOrders = true := by kernel_rfl
theorem by_eq {A B : Prop} (h : B) (e : A = B) : A := e ▸ h
end Go.Proofs.Ytonjaaljnjjjcaa

set_option linter.unusedVariables false
set_option linter.unusedSimpArgs false
namespace Go.Proofs.Ytonjaaljnjjjcaa
open Go

/-- creel/creellaw05.shown -/
def ir47 (w0 : World) (R : Value → World → Prop) : Prop :=
  Calls Pr 25 #[(.int .i64 100)] w0 fun e1 w1 =>
    ∃ (p1 : Option Addr),
    e1 = .returned (.pointer p1) ∧
    brc (Option.isNone p1)
      (R (.bool false) w1)
      (Calls Pr 49 #[(.pointer p1), (.int .i64 7)] w1 fun e2 w2 =>
          ∃ (n1 : Int),
          e2 = .returned (.int .i64 n1) ∧
          brc (n1 != (0 : Int))
            (R (.bool false) w2)
            (∃ (s1 : SV) (w3 : World),
              Sem.run Pr (Instr.makeSlice 26 (.int .i64 70) (.int .i64 70)) w2 = .ok (.slice s1.a s1.len s1.cap) w3 ∧
              Calls Pr 48 #[(.pointer p1), (.string (⟨#[120]⟩ : ByteArray)), (.slice s1.a s1.len s1.cap)] w3 fun e3 w4 =>
                ∃ (n2 : Int),
                e3 = .returned (.int .i64 n2) ∧
                brc (n2 != (0 : Int))
                  (R (.bool false) w4)
                  (Calls Pr 55 #[(.pointer p1)] w4 fun e4 w5 =>
                      ∃ (n3 : Int),
                      e4 = .returned (.int .i64 n3) ∧
                      brc (n3 != (40 : Int))
                        (R (.bool false) w5)
                        (Calls Pr 45 #[(.pointer p1), (.agg #[(.int .i64 0), (.slice none 0 0)])] w5 fun e5 w6 =>
                            ∃ (n4 : Int),
                            e5 = .returned (.int .i64 n4) ∧
                            brc (n4 != (0 : Int))
                              (R (.bool false) w6)
                              (Calls Pr 28 #[(.pointer p1), (.string (⟨#[120]⟩ : ByteArray))] w6 fun e6 w7 =>
                                  ∃ (s2 : SV) (n5 : Int),
                                  e6 = .returned (.tuple #[(.slice s2.a s2.len s2.cap), (.int .i64 n5)]) ∧
                                  brc (((s2.len : Nat) : Int) == (70 : Int))
                                    (R (.bool (n5 == (0 : Int))) w7)
                                    (R (.bool false) w7))))))

theorem call47 {w0 : World} {R : Ending → World → Prop} (h : ir47 w0 fun v w => R (.returned v) w) : Calls Pr 47 #[] w0 R := by
  refine calls_of_vc (ann := []) (E := []) (args := []) follows Try.func47 rfl (by kernel_rfl) ?_
  apply by_eq h
  kernel_rfl

/-- creel/creellaw05.few -/
def ir51 (x0 : SV) (w0 : World) (R : Value → World → Prop) : Prop :=
  LoopT (σ := Int × SV × Unit) (fun σ1 w1 K1 =>
    ∀ _ : Env,
    brc (decide (σ1.1 < ((x0.len : Nat) : Int)))
      (((0 : Int) ≤ σ1.1 ∧ σ1.1 < ((x0.len : Nat) : Int)) ∧
        optK x0.a fun a1 =>
          ∃ (n1 : Int) (str1 : ByteArray) (s1 : SV) (s2 : SV) (n2 : Int) (s3 : SV) (n3 : Int),
          At Pr w1 (loadVar 85 (Addr.add a1 (Int.toNat σ1.1 * 7))) (.agg #[(.int .u8 n1), (.string str1), (.slice s1.a s1.len s1.cap), (.slice s2.a s2.len s2.cap), (.int .i64 n2), (.slice s3.a s3.len s3.cap), (.int .i64 n3)]) ∧
          ∃ (a2 : Addr) (w2 : World),
          Sem.run Pr (Instr.alloc 85 true (.tuple #[])) w1 = .ok (.pointer (some a2)) w2 ∧
          ∃ (w3 : World),
          Sem.run Pr (Instr.storeAt 85 (.pointer (some a2)) (.agg #[(.int .u8 n1), (.string str1), (.slice s1.a s1.len s1.cap), (.slice s2.a s2.len s2.cap), (.int .i64 n2), (.slice s3.a s3.len s3.cap), (.int .i64 n3)])) w2 = .ok () w3 ∧
          brc (decide (σ1.1 < (40 : Int)))
            (∃ (s4 : SV),
              At Pr w3 (loadVar 26 (Addr.add a2 2)) (.slice s4.a s4.len s4.cap) ∧
              brc (decide (((s4.len : Nat) : Int) ≤ (300 : Int)))
                (∃ (str2 : ByteArray),
                  At Pr w3 (loadVar 9 (Addr.add a2 1)) (.string str2) ∧
                  brc (decide (((ByteArray.size str2 : Nat) : Int) ≤ (40 : Int)))
                    (∃ (s5 : SV),
                      At Pr w3 (loadVar 78 (Addr.add a2 3)) (.slice s5.a s5.len s5.cap) ∧
                      brc (decide (((s5.len : Nat) : Int) ≤ (10 : Int)))
                        (∃ (s6 : SV),
                          At Pr w3 (loadVar 61 (Addr.add (Addr.add a2 4) 1)) (.slice s6.a s6.len s6.cap) ∧
                          brc (decide (((s6.len : Nat) : Int) ≤ (50 : Int)))
                            (∃ (n4 : Int) (str3 : ByteArray) (s7 : SV) (s8 : SV) (n5 : Int) (s9 : SV) (n6 : Int),
                              At Pr w3 (loadVar 85 a2) (.agg #[(.int .u8 n4), (.string str3), (.slice s7.a s7.len s7.cap), (.slice s8.a s8.len s8.cap), (.int .i64 n5), (.slice s9.a s9.len s9.cap), (.int .i64 n6)]) ∧
                              ∃ (s10 : SV) (w4 : World),
                              Sem.run Pr (Instr.buildSlice 82 1 #[(0, (.agg #[(.int .u8 n4), (.string str3), (.slice s7.a s7.len s7.cap), (.slice s8.a s8.len s8.cap), (.int .i64 n5), (.slice s9.a s9.len s9.cap), (.int .i64 n6)]))]) w3 = .ok (.slice s10.a s10.len s10.cap) w4 ∧
                              ∃ (s11 : SV) (w5 : World),
                              Sem.run Pr (Builtin.append_ #[82, 82] 82 #[(.slice σ1.2.1.a σ1.2.1.len σ1.2.1.cap), (.slice s10.a s10.len s10.cap)]) w4 = .ok (.slice s11.a s11.len s11.cap) w5 ∧
                              K1 (IntKind.wrap .i64 (σ1.1 + 1), s11, ()) w5)
                            (K1 (IntKind.wrap .i64 (σ1.1 + 1), σ1.2.1, ()) w3))
                        (K1 (IntKind.wrap .i64 (σ1.1 + 1), σ1.2.1, ()) w3))
                    (K1 (IntKind.wrap .i64 (σ1.1 + 1), σ1.2.1, ()) w3))
                (K1 (IntKind.wrap .i64 (σ1.1 + 1), σ1.2.1, ()) w3))
            (K1 (IntKind.wrap .i64 (σ1.1 + 1), σ1.2.1, ()) w3))
      (R (.slice σ1.2.1.a σ1.2.1.len σ1.2.1.cap) w1)) (0, SV.mk none 0 0, ()) w0

theorem call51 {x0 : SV} {w0 : World} {R : Ending → World → Prop} (h : ir51 x0 w0 fun v w => R (.returned v) w) : Calls Pr 51 #[.slice x0.a x0.len x0.cap] w0 R := by
  refine calls_of_vc (ann := [(3, [(8, .int .i64), (3, .slice)])]) (E := []) (args := [.slice x0.a x0.len x0.cap]) follows Try.func51 rfl (by kernel_rfl) ?_
  apply by_eq h
  kernel_rfl

/-- creel/creellaw05.does -/
def ir52 (x0 : Option Addr) (x1 : Option Addr) (x2_Kind : Int) (x2_Name : ByteArray) (x2_B : SV) (x2_Names : SV) (x2_W_Names : Int) (x2_W_Bytes : SV) (x2_N : Int) (w0 : World) (R : Value → World → Prop) : Prop :=
  ∃ (a1 : Addr) (w1 : World),
  Sem.run Pr (Instr.box 85 (.agg #[(.int .u8 x2_Kind), (.string x2_Name), (.slice x2_B.a x2_B.len x2_B.cap), (.slice x2_Names.a x2_Names.len x2_Names.cap), (.int .i64 x2_W_Names), (.slice x2_W_Bytes.a x2_W_Bytes.len x2_W_Bytes.cap), (.int .i64 x2_N)])) w0 = .ok (.pointer (some a1)) w1 ∧
  ∃ (n1 : Int),
  At Pr w1 (loadVar 5 (Addr.add a1 0)) (.int .u8 n1) ∧
  (5 : Int) ≠ 0 ∧
  brc ((Int.tmod n1 5) == (0 : Int))
    (∃ (S1 : World → Prop),
      S1 (World.drew w1) ∧
      ∃ (str1 : ByteArray),
      AtS Pr S1 (loadVar 9 (Addr.add a1 1)) (.string str1) ∧
      ∃ (s1 : SV),
      AtS Pr S1 (loadVar 26 (Addr.add a1 2)) (.slice s1.a s1.len s1.cap) ∧
      ∃ (str2 : ByteArray),
      AtS Pr S1 (loadVar 9 (Addr.add a1 1)) (.string str2) ∧
      ∃ (s2 : SV),
      AtS Pr S1 (loadVar 26 (Addr.add a1 2)) (.slice s2.a s2.len s2.cap) ∧
      Calls Pr 48 #[(.pointer x0), (.string str1), (.slice s1.a s1.len s1.cap)] (World.drew w1) fun e1 w2 =>
        ∃ (n2 : Int),
        e1 = .returned (.int .i64 n2) ∧
        ∃ (S2 : World → Prop),
        (∀ w, S2 w → S1 w) ∧
        S2 w2 ∧
        Calls Pr 119 #[(.pointer x1), (.string str2), (.slice s2.a s2.len s2.cap)] w2 fun e2 w3 =>
          ∃ (n3 : Int),
          e2 = .returned (.int .i64 n3) ∧
          ∃ (S3 : World → Prop),
          (∀ w, S3 w → S2 w) ∧
          S3 w3 ∧
          R (.bool (n2 == n3)) w3)
    (brc ((Int.tmod n1 5) == (1 : Int))
        (∃ (S4 : World → Prop),
          S4 (World.drew w1) ∧
          ∃ (str3 : ByteArray),
          AtS Pr S4 (loadVar 9 (Addr.add a1 1)) (.string str3) ∧
          ∃ (s3 : SV),
          AtS Pr S4 (loadVar 26 (Addr.add a1 2)) (.slice s3.a s3.len s3.cap) ∧
          ∃ (str4 : ByteArray),
          AtS Pr S4 (loadVar 9 (Addr.add a1 1)) (.string str4) ∧
          ∃ (s4 : SV),
          AtS Pr S4 (loadVar 26 (Addr.add a1 2)) (.slice s4.a s4.len s4.cap) ∧
          Calls Pr 58 #[(.pointer x0), (.string str3), (.slice s3.a s3.len s3.cap)] (World.drew w1) fun e3 w4 =>
            ∃ (n4 : Int),
            e3 = .returned (.int .i64 n4) ∧
            ∃ (S5 : World → Prop),
            (∀ w, S5 w → S4 w) ∧
            S5 w4 ∧
            Calls Pr 120 #[(.pointer x1), (.string str4), (.slice s4.a s4.len s4.cap)] w4 fun e4 w5 =>
              ∃ (n5 : Int),
              e4 = .returned (.int .i64 n5) ∧
              ∃ (S6 : World → Prop),
              (∀ w, S6 w → S5 w) ∧
              S6 w5 ∧
              R (.bool (n4 == n5)) w5)
        (brc ((Int.tmod n1 5) == (2 : Int))
            (∃ (S7 : World → Prop),
              S7 (World.drew w1) ∧
              ∃ (s5 : SV),
              AtS Pr S7 (loadVar 78 (Addr.add a1 3)) (.slice s5.a s5.len s5.cap) ∧
              ∃ (s6 : SV),
              AtS Pr S7 (loadVar 78 (Addr.add a1 3)) (.slice s6.a s6.len s6.cap) ∧
              Calls Pr 67 #[(.pointer x0), (.slice s5.a s5.len s5.cap)] (World.drew w1) fun e5 w6 =>
                ∃ (n6 : Int),
                e5 = .returned (.int .i64 n6) ∧
                ∃ (S8 : World → Prop),
                (∀ w, S8 w → S7 w) ∧
                S8 w6 ∧
                Calls Pr 121 #[(.pointer x1), (.slice s6.a s6.len s6.cap)] w6 fun e6 w7 =>
                  ∃ (n7 : Int),
                  e6 = .returned (.int .i64 n7) ∧
                  ∃ (S9 : World → Prop),
                  (∀ w, S9 w → S8 w) ∧
                  S9 w7 ∧
                  R (.bool (n6 == n7)) w7)
            (brc ((Int.tmod n1 5) == (3 : Int))
                (∃ (S10 : World → Prop),
                  S10 (World.drew w1) ∧
                  ∃ (n8 : Int) (s7 : SV),
                  AtS Pr S10 (loadVar 63 (Addr.add a1 4)) (.agg #[(.int .i64 n8), (.slice s7.a s7.len s7.cap)]) ∧
                  ∃ (n9 : Int) (s8 : SV),
                  AtS Pr S10 (loadVar 63 (Addr.add a1 4)) (.agg #[(.int .i64 n9), (.slice s8.a s8.len s8.cap)]) ∧
                  Calls Pr 45 #[(.pointer x0), (.agg #[(.int .i64 n8), (.slice s7.a s7.len s7.cap)])] (World.drew w1) fun e7 w8 =>
                    ∃ (n10 : Int),
                    e7 = .returned (.int .i64 n10) ∧
                    ∃ (S11 : World → Prop),
                    (∀ w, S11 w → S10 w) ∧
                    S11 w8 ∧
                    Calls Pr 46 #[(.pointer x1), (.agg #[(.int .i64 n9), (.slice s8.a s8.len s8.cap)])] w8 fun e8 w9 =>
                      ∃ (n11 : Int),
                      e8 = .returned (.int .i64 n11) ∧
                      ∃ (S12 : World → Prop),
                      (∀ w, S12 w → S11 w) ∧
                      S12 w9 ∧
                      R (.bool (n10 == n11)) w9)
                (∃ (S13 : World → Prop),
                  S13 (World.drew w1) ∧
                  ∃ (n12 : Int),
                  AtS Pr S13 (loadVar 3 (Addr.add a1 6)) (.int .i64 n12) ∧
                  ∃ (n13 : Int),
                  AtS Pr S13 (loadVar 3 (Addr.add a1 6)) (.int .i64 n13) ∧
                  Calls Pr 49 #[(.pointer x0), (.int .i64 n12)] (World.drew w1) fun e9 w10 =>
                    ∃ (n14 : Int),
                    e9 = .returned (.int .i64 n14) ∧
                    ∃ (S14 : World → Prop),
                    (∀ w, S14 w → S13 w) ∧
                    S14 w10 ∧
                    Calls Pr 59 #[(.pointer x1), (.int .i64 n13)] w10 fun e10 w11 =>
                      ∃ (n15 : Int),
                      e10 = .returned (.int .i64 n15) ∧
                      ∃ (S15 : World → Prop),
                      (∀ w, S15 w → S14 w) ∧
                      S15 w11 ∧
                      R (.bool (n14 == n15)) w11))))

theorem call52 {x0 : Option Addr} {x1 : Option Addr} {x2_Kind : Int} {x2_Name : ByteArray} {x2_B : SV} {x2_Names : SV} {x2_W_Names : Int} {x2_W_Bytes : SV} {x2_N : Int} {w0 : World} {R : Ending → World → Prop} (h : ir52 x0 x1 x2_Kind x2_Name x2_B x2_Names x2_W_Names x2_W_Bytes x2_N w0 fun v w => R (.returned v) w) : Calls Pr 52 #[.pointer x0, .pointer x1, .agg #[(.int .u8 x2_Kind), (.string x2_Name), (.slice x2_B.a x2_B.len x2_B.cap), (.slice x2_Names.a x2_Names.len x2_Names.cap), (.int .i64 x2_W_Names), (.slice x2_W_Bytes.a x2_W_Bytes.len x2_W_Bytes.cap), (.int .i64 x2_N)]] w0 R := by
  refine calls_of_vc (ann := []) (E := []) (args := [.pointer x0, .pointer x1, .agg #[(.int .u8 x2_Kind), (.string x2_Name), (.slice x2_B.a x2_B.len x2_B.cap), (.slice x2_Names.a x2_Names.len x2_Names.cap), (.int .i64 x2_W_Names), (.slice x2_W_Bytes.a x2_W_Bytes.len x2_W_Bytes.cap), (.int .i64 x2_N)]]) follows Try.func52 rfl (by kernel_rfl) ?_
  apply by_eq h
  kernel_rfl

/-- creel/creellaw05.same -/
def ir53 (x0 : Option Addr) (x1 : Option Addr) (w0 : World) (R : Value → World → Prop) : Prop :=
  Calls Pr 50 #[(.pointer x0)] w0 fun e1 w1 =>
    ∃ (s1 : SV) (n1 : Int),
    e1 = .returned (.tuple #[(.slice s1.a s1.len s1.cap), (.int .i64 n1)]) ∧
    Calls Pr 101 #[(.pointer x1)] w1 fun e2 w2 =>
      ∃ (s2 : SV) (n2 : Int),
      e2 = .returned (.tuple #[(.slice s2.a s2.len s2.cap), (.int .i64 n2)]) ∧
      brc (((s1.len : Nat) : Int) != ((s2.len : Nat) : Int))
        (R (.bool false) w2)
        (brc (n1 != n2)
            (R (.bool false) w2)
            (LoopT (σ := Int × Unit) (fun σ1 w3 K1 =>
                ∀ _ : Env,
                brc (decide (σ1.1 < ((s2.len : Nat) : Int)))
                  (((0 : Int) ≤ σ1.1 ∧ σ1.1 < ((s2.len : Nat) : Int)) ∧
                    optK s2.a fun a1 =>
                      ∃ (str1 : ByteArray),
                      At Pr w3 (loadVar 9 (Addr.add a1 (Int.toNat σ1.1 * 1))) (.string str1) ∧
                      Calls Pr 28 #[(.pointer x0), (.string str1)] w3 fun e3 w4 =>
                        ∃ (s3 : SV) (n3 : Int),
                        e3 = .returned (.tuple #[(.slice s3.a s3.len s3.cap), (.int .i64 n3)]) ∧
                        Calls Pr 64 #[(.pointer x1), (.string str1)] w4 fun e4 w5 =>
                          ∃ (s4 : SV) (n4 : Int),
                          e4 = .returned (.tuple #[(.slice s4.a s4.len s4.cap), (.int .i64 n4)]) ∧
                          ((0 : Int) ≤ σ1.1 ∧ σ1.1 < ((s1.len : Nat) : Int)) ∧
                          optK s1.a fun a2 =>
                            ∃ (str2 : ByteArray),
                            At Pr w5 (loadVar 9 (Addr.add a2 (Int.toNat σ1.1 * 1))) (.string str2) ∧
                            brc (!(ByteArray.toList str2 == ByteArray.toList str1))
                              (R (.bool false) w5)
                              (∃ (str3 : ByteArray),
                                At Pr w5 (convert 26 9 (.slice s3.a s3.len s3.cap)) (.string str3) ∧
                                ∃ (str4 : ByteArray),
                                At Pr w5 (convert 26 9 (.slice s4.a s4.len s4.cap)) (.string str4) ∧
                                brc (!(ByteArray.toList str3 == ByteArray.toList str4))
                                  (R (.bool false) w5)
                                  (brc (n3 != n4)
                                      (R (.bool false) w5)
                                      (K1 (IntKind.wrap .i64 (σ1.1 + 1), ()) w5))))
                  (R (.bool true) w3)) (0, ()) w2))

theorem call53 {x0 : Option Addr} {x1 : Option Addr} {w0 : World} {R : Ending → World → Prop} (h : ir53 x0 x1 w0 fun v w => R (.returned v) w) : Calls Pr 53 #[.pointer x0, .pointer x1] w0 R := by
  refine calls_of_vc (ann := [(6, [(37, .int .i64)])]) (E := []) (args := [.pointer x0, .pointer x1]) follows Try.func53 rfl (by kernel_rfl) ?_
  apply by_eq h
  kernel_rfl

/-- creel/creellaw05.made -/
def ir54 (x0 : Int) (x1 : SV) (w0 : World) (R : Value → World → Prop) : Prop :=
  Calls Pr 25 #[(.int .i64 x0)] w0 fun e1 w1 =>
    ∃ (p1 : Option Addr),
    e1 = .returned (.pointer p1) ∧
    Calls Pr 51 #[(.slice x1.a x1.len x1.cap)] w1 fun e2 w2 =>
      ∃ (s1 : SV),
      e2 = .returned (.slice s1.a s1.len s1.cap) ∧
      LoopT (σ := Int × Unit) (fun σ1 w3 K1 =>
        ∀ _ : Env,
        brc (decide (σ1.1 < ((s1.len : Nat) : Int)))
          (((0 : Int) ≤ σ1.1 ∧ σ1.1 < ((s1.len : Nat) : Int)) ∧
            optK s1.a fun a1 =>
              ∃ (n1 : Int) (str1 : ByteArray) (s2 : SV) (s3 : SV) (n2 : Int) (s4 : SV) (n3 : Int),
              At Pr w3 (loadVar 85 (Addr.add a1 (Int.toNat σ1.1 * 7))) (.agg #[(.int .u8 n1), (.string str1), (.slice s2.a s2.len s2.cap), (.slice s3.a s3.len s3.cap), (.int .i64 n2), (.slice s4.a s4.len s4.cap), (.int .i64 n3)]) ∧
              ∃ (a2 : Addr) (w4 : World),
              Sem.run Pr (Instr.alloc 85 true (.tuple #[])) w3 = .ok (.pointer (some a2)) w4 ∧
              ∃ (w5 : World),
              Sem.run Pr (Instr.storeAt 85 (.pointer (some a2)) (.agg #[(.int .u8 n1), (.string str1), (.slice s2.a s2.len s2.cap), (.slice s3.a s3.len s3.cap), (.int .i64 n2), (.slice s4.a s4.len s4.cap), (.int .i64 n3)])) w4 = .ok () w5 ∧
              ∃ (n4 : Int),
              At Pr w5 (loadVar 5 (Addr.add a2 0)) (.int .u8 n4) ∧
              (3 : Int) ≠ 0 ∧
              brc ((Int.tmod n4 3) == (0 : Int))
                (∃ (str2 : ByteArray),
                  At Pr w5 (loadVar 9 (Addr.add a2 1)) (.string str2) ∧
                  ∃ (s5 : SV),
                  At Pr w5 (loadVar 26 (Addr.add a2 2)) (.slice s5.a s5.len s5.cap) ∧
                  Calls Pr 48 #[(.pointer p1), (.string str2), (.slice s5.a s5.len s5.cap)] w5 fun e3 w6 =>
                    ∃ (n5 : Int),
                    e3 = .returned (.int .i64 n5) ∧
                    K1 (IntKind.wrap .i64 (σ1.1 + 1), ()) w6)
                (brc ((Int.tmod n4 3) == (1 : Int))
                    (∃ (str3 : ByteArray),
                      At Pr w5 (loadVar 9 (Addr.add a2 1)) (.string str3) ∧
                      ∃ (s6 : SV),
                      At Pr w5 (loadVar 26 (Addr.add a2 2)) (.slice s6.a s6.len s6.cap) ∧
                      Calls Pr 58 #[(.pointer p1), (.string str3), (.slice s6.a s6.len s6.cap)] w5 fun e4 w7 =>
                        ∃ (n6 : Int),
                        e4 = .returned (.int .i64 n6) ∧
                        K1 (IntKind.wrap .i64 (σ1.1 + 1), ()) w7)
                    (∃ (s7 : SV),
                      At Pr w5 (loadVar 78 (Addr.add a2 3)) (.slice s7.a s7.len s7.cap) ∧
                      Calls Pr 67 #[(.pointer p1), (.slice s7.a s7.len s7.cap)] w5 fun e5 w8 =>
                        ∃ (n7 : Int),
                        e5 = .returned (.int .i64 n7) ∧
                        K1 (IntKind.wrap .i64 (σ1.1 + 1), ()) w8)))
          (R (.pointer p1) w3)) (0, ()) w2

theorem call54 {x0 : Int} {x1 : SV} {w0 : World} {R : Ending → World → Prop} (h : ir54 x0 x1 w0 fun v w => R (.returned v) w) : Calls Pr 54 #[.int .i64 x0, .slice x1.a x1.len x1.cap] w0 R := by
  refine calls_of_vc (ann := [(3, [(13, .int .i64)])]) (E := []) (args := [.int .i64 x0, .slice x1.a x1.len x1.cap]) follows Try.func54 rfl (by kernel_rfl) ?_
  apply by_eq h
  kernel_rfl

/-- creel/creellaw05.names -/
def ir56 (x0 : Option Addr) (w0 : World) (R : Value → World → Prop) : Prop :=
  Calls Pr 50 #[(.pointer x0)] w0 fun e1 w1 =>
    ∃ (s1 : SV) (n1 : Int),
    e1 = .returned (.tuple #[(.slice s1.a s1.len s1.cap), (.int .i64 n1)]) ∧
    R (.slice s1.a s1.len s1.cap) w1

theorem call56 {x0 : Option Addr} {w0 : World} {R : Ending → World → Prop} (h : ir56 x0 w0 fun v w => R (.returned v) w) : Calls Pr 56 #[.pointer x0] w0 R := by
  refine calls_of_vc (ann := []) (E := []) (args := [.pointer x0]) follows Try.func56 rfl (by kernel_rfl) ?_
  apply by_eq h
  kernel_rfl

/-- creel/creellaw05.PlaceTwice -/
def ir8 (x0 : ByteArray) (x1 : SV) (x2 : SV) (w0 : World) (R : Value → World → Prop) : Prop :=
  Calls Pr 47 #[] w0 fun e1 w1 =>
    ∃ (b1 : Bool),
    e1 = .returned (.bool b1) ∧
    ∃ (S1 : World → Prop),
    S1 (World.drew w1) ∧
    ((0 : Int) ≤ (if 300 < ((x1.len : Nat) : Int) then 300 else ((x1.len : Nat) : Int)) ∧ (if 300 < ((x1.len : Nat) : Int) then 300 else ((x1.len : Nat) : Int)) ≤ ((x1.cap : Nat) : Int)) ∧
    ((0 : Int) ≤ (if 300 < ((x2.len : Nat) : Int) then 300 else ((x2.len : Nat) : Int)) ∧ (if 300 < ((x2.len : Nat) : Int) then 300 else ((x2.len : Nat) : Int)) ≤ ((x2.cap : Nat) : Int)) ∧
    Calls Pr 25 #[(.int .i64 5000)] (World.drew w1) fun e2 w2 =>
      ∃ (p1 : Option Addr),
      e2 = .returned (.pointer p1) ∧
      brc (Option.isNone p1)
        (brc (b1)
            (brc (!(Option.isNone p1))
                (brc ((ByteArray.toList x0 == ByteArray.toList (⟨#[116, 109, 112]⟩ : ByteArray)))
                    (R (.bool true) w2)
                    (brc ((ByteArray.toList x0 == ByteArray.toList (⟨#[]⟩ : ByteArray)))
                        (R (.bool true) w2)
                        (R (.bool (decide (((ByteArray.size x0 : Nat) : Int) > (32 : Int)))) w2)))
                (R (.bool false) w2))
            (R (.bool false) w2))
        (Calls Pr 48 #[(.pointer p1), (.string x0), (.slice (cutAt x1.a 0 x1.cap 1) ((Int.toNat (if 300 < ((x1.len : Nat) : Int) then 300 else ((x1.len : Nat) : Int))) - 0) (x1.cap - 0))] w2 fun e3 w3 =>
            ∃ (n1 : Int),
            e3 = .returned (.int .i64 n1) ∧
            brc (n1 != (0 : Int))
              (brc (b1)
                  (brc (!(Option.isNone p1))
                      (brc ((ByteArray.toList x0 == ByteArray.toList (⟨#[116, 109, 112]⟩ : ByteArray)))
                          (R (.bool true) w3)
                          (brc ((ByteArray.toList x0 == ByteArray.toList (⟨#[]⟩ : ByteArray)))
                              (R (.bool true) w3)
                              (R (.bool (decide (((ByteArray.size x0 : Nat) : Int) > (32 : Int)))) w3)))
                      (R (.bool false) w3))
                  (R (.bool false) w3))
              ((64 : Int) ≠ 0 ∧
                Calls Pr 42 #[(.pointer p1)] w3 fun e4 w4 =>
                  ∃ (p2 : Option Addr),
                  e4 = .returned (.pointer p2) ∧
                  brc (Option.isNone p2)
                    (R (.bool false) w4)
                    (Calls Pr 49 #[(.pointer p2), (.int .i64 (IntKind.wrap .i64 ((IntKind.wrap .i64 (5 + (IntKind.wrap .i64 (Int.tdiv (IntKind.wrap .i64 (((((Int.toNat (if 300 < ((x2.len : Nat) : Int) then 300 else ((x2.len : Nat) : Int))) - 0 : Nat) : Int)) + 63)) 64)))) - 1)))] w4 fun e5 w5 =>
                        ∃ (n2 : Int),
                        e5 = .returned (.int .i64 n2) ∧
                        brc (n2 != (0 : Int))
                          (R (.bool false) w5)
                          (Calls Pr 48 #[(.pointer p2), (.string x0), (.slice (cutAt x2.a 0 x2.cap 1) ((Int.toNat (if 300 < ((x2.len : Nat) : Int) then 300 else ((x2.len : Nat) : Int))) - 0) (x2.cap - 0))] w5 fun e6 w6 =>
                              ∃ (n3 : Int),
                              e6 = .returned (.int .i64 n3) ∧
                              brc (n3 != (40 : Int))
                                (R (.bool false) w6)
                                (Calls Pr 49 #[(.pointer p1), (.int .i64 (IntKind.wrap .i64 (5 + (IntKind.wrap .i64 (Int.tdiv (IntKind.wrap .i64 (((((Int.toNat (if 300 < ((x2.len : Nat) : Int) then 300 else ((x2.len : Nat) : Int))) - 0 : Nat) : Int)) + 63)) 64)))))] w6 fun e7 w7 =>
                                    ∃ (n4 : Int),
                                    e7 = .returned (.int .i64 n4) ∧
                                    brc (n4 != (0 : Int))
                                      (R (.bool false) w7)
                                      (Calls Pr 48 #[(.pointer p1), (.string x0), (.slice (cutAt x2.a 0 x2.cap 1) ((Int.toNat (if 300 < ((x2.len : Nat) : Int) then 300 else ((x2.len : Nat) : Int))) - 0) (x2.cap - 0))] w7 fun e8 w8 =>
                                          ∃ (n5 : Int),
                                          e8 = .returned (.int .i64 n5) ∧
                                          brc (n5 != (0 : Int))
                                            (R (.bool false) w8)
                                            (Calls Pr 45 #[(.pointer p1), (.agg #[(.int .i64 0), (.slice none 0 0)])] w8 fun e9 w9 =>
                                                ∃ (n6 : Int),
                                                e9 = .returned (.int .i64 n6) ∧
                                                brc (n6 != (0 : Int))
                                                  (R (.bool false) w9)
                                                  (Calls Pr 28 #[(.pointer p1), (.string x0)] w9 fun e10 w10 =>
                                                      ∃ (s1 : SV) (n7 : Int),
                                                      e10 = .returned (.tuple #[(.slice s1.a s1.len s1.cap), (.int .i64 n7)]) ∧
                                                      Calls Pr 50 #[(.pointer p1)] w10 fun e11 w11 =>
                                                        ∃ (s2 : SV) (n8 : Int),
                                                        e11 = .returned (.tuple #[(.slice s2.a s2.len s2.cap), (.int .i64 n8)]) ∧
                                                        brc (b1)
                                                          (brc (n7 == (0 : Int))
                                                              (brc (n8 == (0 : Int))
                                                                  (∃ (str1 : ByteArray),
                                                                    At Pr w11 (convert 26 9 (.slice s1.a s1.len s1.cap)) (.string str1) ∧
                                                                    ∃ (str2 : ByteArray),
                                                                    At Pr w11 (convert 26 9 (.slice (cutAt x2.a 0 x2.cap 1) ((Int.toNat (if 300 < ((x2.len : Nat) : Int) then 300 else ((x2.len : Nat) : Int))) - 0) (x2.cap - 0))) (.string str2) ∧
                                                                    brc ((ByteArray.toList str1 == ByteArray.toList str2))
                                                                      (R (.bool (((s2.len : Nat) : Int) == (1 : Int))) w11)
                                                                      (R (.bool false) w11))
                                                                  (R (.bool false) w11))
                                                              (R (.bool false) w11))
                                                          (R (.bool false) w11)))))))))

theorem call8 {x0 : ByteArray} {x1 : SV} {x2 : SV} {w0 : World} {R : Ending → World → Prop} (h : ir8 x0 x1 x2 w0 fun v w => R (.returned v) w) : Calls Pr 8 #[.string x0, .slice x1.a x1.len x1.cap, .slice x2.a x2.len x2.cap] w0 R := by
  refine calls_of_vc (ann := []) (E := []) (args := [.string x0, .slice x1.a x1.len x1.cap, .slice x2.a x2.len x2.cap]) follows Try.func8 rfl (by kernel_rfl) ?_
  apply by_eq h
  kernel_rfl

/-- creel/creellaw05.PlacePlays -/
def ir9 (x0 : Int) (x1 : SV) (x2_Names : Int) (x2_Bytes : SV) (w0 : World) (R : Value → World → Prop) : Prop :=
  ∃ (a1 : Addr) (w1 : World),
  Sem.run Pr (Instr.box 63 (.agg #[(.int .i64 x2_Names), (.slice x2_Bytes.a x2_Bytes.len x2_Bytes.cap)])) w0 = .ok (.pointer (some a1)) w1 ∧
  Calls Pr 47 #[] w1 fun e1 w2 =>
    ∃ (b1 : Bool),
    e1 = .returned (.bool b1) ∧
    Calls Pr 25 #[(.int .i64 x0)] w2 fun e2 w3 =>
      ∃ (p1 : Option Addr),
      e2 = .returned (.pointer p1) ∧
      Calls Pr 36 #[(.int .i64 x0)] w3 fun e3 w4 =>
        ∃ (p2 : Option Addr),
        e3 = .returned (.pointer p2) ∧
        brc (Option.isNone p1)
          (R (.bool false) w4)
          (Calls Pr 51 #[(.slice x1.a x1.len x1.cap)] w4 fun e4 w5 =>
              ∃ (s1 : SV),
              e4 = .returned (.slice s1.a s1.len s1.cap) ∧
              LoopT (σ := Int × Unit) (fun σ1 w6 K1 =>
                ∀ _ : Env,
                brc (decide (σ1.1 < ((s1.len : Nat) : Int)))
                  (((0 : Int) ≤ σ1.1 ∧ σ1.1 < ((s1.len : Nat) : Int)) ∧
                    optK s1.a fun a2 =>
                      ∃ (n1 : Int) (str1 : ByteArray) (s2 : SV) (s3 : SV) (n2 : Int) (s4 : SV) (n3 : Int),
                      At Pr w6 (loadVar 85 (Addr.add a2 (Int.toNat σ1.1 * 7))) (.agg #[(.int .u8 n1), (.string str1), (.slice s2.a s2.len s2.cap), (.slice s3.a s3.len s3.cap), (.int .i64 n2), (.slice s4.a s4.len s4.cap), (.int .i64 n3)]) ∧
                      ∃ (a3 : Addr) (w7 : World),
                      Sem.run Pr (Instr.alloc 85 true (.tuple #[])) w6 = .ok (.pointer (some a3)) w7 ∧
                      ∃ (w8 : World),
                      Sem.run Pr (Instr.storeAt 85 (.pointer (some a3)) (.agg #[(.int .u8 n1), (.string str1), (.slice s2.a s2.len s2.cap), (.slice s3.a s3.len s3.cap), (.int .i64 n2), (.slice s4.a s4.len s4.cap), (.int .i64 n3)])) w7 = .ok () w8 ∧
                      ∃ (n4 : Int) (str2 : ByteArray) (s5 : SV) (s6 : SV) (n5 : Int) (s7 : SV) (n6 : Int),
                      At Pr w8 (loadVar 85 a3) (.agg #[(.int .u8 n4), (.string str2), (.slice s5.a s5.len s5.cap), (.slice s6.a s6.len s6.cap), (.int .i64 n5), (.slice s7.a s7.len s7.cap), (.int .i64 n6)]) ∧
                      Calls Pr 52 #[(.pointer p1), (.pointer p2), (.agg #[(.int .u8 n4), (.string str2), (.slice s5.a s5.len s5.cap), (.slice s6.a s6.len s6.cap), (.int .i64 n5), (.slice s7.a s7.len s7.cap), (.int .i64 n6)])] w8 fun e5 w9 =>
                        ∃ (b2 : Bool),
                        e5 = .returned (.bool b2) ∧
                        brc (!b2)
                          (R (.bool false) w9)
                          (K1 (IntKind.wrap .i64 (σ1.1 + 1), ()) w9))
                  (∃ (n7 : Int) (s8 : SV),
                    At Pr w6 (loadVar 63 a1) (.agg #[(.int .i64 n7), (.slice s8.a s8.len s8.cap)]) ∧
                    Calls Pr 45 #[(.pointer p1), (.agg #[(.int .i64 n7), (.slice s8.a s8.len s8.cap)])] w6 fun e6 w10 =>
                      ∃ (n8 : Int),
                      e6 = .returned (.int .i64 n8) ∧
                      ∃ (n9 : Int) (s9 : SV),
                      At Pr w10 (loadVar 63 a1) (.agg #[(.int .i64 n9), (.slice s9.a s9.len s9.cap)]) ∧
                      Calls Pr 46 #[(.pointer p2), (.agg #[(.int .i64 n9), (.slice s9.a s9.len s9.cap)])] w10 fun e7 w11 =>
                        ∃ (n10 : Int),
                        e7 = .returned (.int .i64 n10) ∧
                        brc (b1)
                          (Calls Pr 53 #[(.pointer p1), (.pointer p2)] w11 fun e8 w12 =>
                              ∃ (b3 : Bool),
                              e8 = .returned (.bool b3) ∧
                              R (.bool b3) w12)
                          (R (.bool false) w11))) (0, ()) w5)

theorem call9 {x0 : Int} {x1 : SV} {x2_Names : Int} {x2_Bytes : SV} {w0 : World} {R : Ending → World → Prop} (h : ir9 x0 x1 x2_Names x2_Bytes w0 fun v w => R (.returned v) w) : Calls Pr 9 #[.int .i64 x0, .slice x1.a x1.len x1.cap, .agg #[(.int .i64 x2_Names), (.slice x2_Bytes.a x2_Bytes.len x2_Bytes.cap)]] w0 R := by
  refine calls_of_vc (ann := [(6, [(22, .int .i64)])]) (E := []) (args := [.int .i64 x0, .slice x1.a x1.len x1.cap, .agg #[(.int .i64 x2_Names), (.slice x2_Bytes.a x2_Bytes.len x2_Bytes.cap)]]) follows Try.func9 rfl (by kernel_rfl) ?_
  apply by_eq h
  kernel_rfl

/-- creel/creellaw05.PlaceGrows -/
def ir10 (x0 : Int) (x1 : SV) (x2 : ByteArray) (x3 : SV) (x4 : Int) (x5_Names : Int) (x5_Bytes : SV) (w0 : World) (R : Value → World → Prop) : Prop :=
  ∃ (a1 : Addr) (w1 : World),
  Sem.run Pr (Instr.box 63 (.agg #[(.int .i64 x5_Names), (.slice x5_Bytes.a x5_Bytes.len x5_Bytes.cap)])) w0 = .ok (.pointer (some a1)) w1 ∧
  Calls Pr 47 #[] w1 fun e1 w2 =>
    ∃ (b1 : Bool),
    e1 = .returned (.bool b1) ∧
    Calls Pr 54 #[(.int .i64 x0), (.slice x1.a x1.len x1.cap)] w2 fun e2 w3 =>
      ∃ (p1 : Option Addr),
      e2 = .returned (.pointer p1) ∧
      ((0 : Int) ≤ (if 300 < ((x3.len : Nat) : Int) then 300 else ((x3.len : Nat) : Int)) ∧ (if 300 < ((x3.len : Nat) : Int) then 300 else ((x3.len : Nat) : Int)) ≤ ((x3.cap : Nat) : Int)) ∧
      brc (Option.isNone p1)
        (R (.bool false) w3)
        (Calls Pr 55 #[(.pointer p1)] w3 fun e3 w4 =>
            ∃ (n1 : Int),
            e3 = .returned (.int .i64 n1) ∧
            brc (n1 != (0 : Int))
              (R (.bool false) w4)
              (Calls Pr 56 #[(.pointer p1)] w4 fun e4 w5 =>
                  ∃ (s1 : SV),
                  e4 = .returned (.slice s1.a s1.len s1.cap) ∧
                  LoopT (σ := Int × Unit) (fun σ1 w6 K1 =>
                    ∀ _ : Env,
                    brc (decide (σ1.1 < ((s1.len : Nat) : Int)))
                      (((0 : Int) ≤ σ1.1 ∧ σ1.1 < ((s1.len : Nat) : Int)) ∧
                        optK s1.a fun a2 =>
                          ∃ (str1 : ByteArray),
                          At Pr w6 (loadVar 9 (Addr.add a2 (Int.toNat σ1.1 * 1))) (.string str1) ∧
                          Calls Pr 57 #[(.pointer p1), (.string str1)] w6 fun e5 w7 =>
                            ∃ (n2 : Int),
                            e5 = .returned (.int .i64 n2) ∧
                            K1 (IntKind.wrap .i64 (σ1.1 + 1), ()) w7)
                      (Calls Pr 28 #[(.pointer p1), (.string x2)] w6 fun e6 w8 =>
                          ∃ (s2 : SV) (n3 : Int),
                          e6 = .returned (.tuple #[(.slice s2.a s2.len s2.cap), (.int .i64 n3)]) ∧
                          Calls Pr 49 #[(.pointer p1), (.int .i64 (IntKind.wrap .i64 x4))] w8 fun e7 w9 =>
                            ∃ (n4 : Int),
                            e7 = .returned (.int .i64 n4) ∧
                            brc (n4 != (0 : Int))
                              (R (.bool false) w9)
                              (Calls Pr 58 #[(.pointer p1), (.string x2), (.slice (cutAt x3.a 0 x3.cap 1) ((Int.toNat (if 300 < ((x3.len : Nat) : Int) then 300 else ((x3.len : Nat) : Int))) - 0) (x3.cap - 0))] w9 fun e8 w10 =>
                                  ∃ (n5 : Int),
                                  e8 = .returned (.int .i64 n5) ∧
                                  ∃ (n6 : Int) (s3 : SV),
                                  At Pr w10 (loadVar 63 a1) (.agg #[(.int .i64 n6), (.slice s3.a s3.len s3.cap)]) ∧
                                  Calls Pr 45 #[(.pointer p1), (.agg #[(.int .i64 n6), (.slice s3.a s3.len s3.cap)])] w10 fun e9 w11 =>
                                    ∃ (n7 : Int),
                                    e9 = .returned (.int .i64 n7) ∧
                                    Calls Pr 28 #[(.pointer p1), (.string x2)] w11 fun e10 w12 =>
                                      ∃ (s4 : SV) (n8 : Int),
                                      e10 = .returned (.tuple #[(.slice s4.a s4.len s4.cap), (.int .i64 n8)]) ∧
                                      ∃ (S1 : World → Prop),
                                      S1 (World.drew w12) ∧
                                      brc (decide (((s4.len : Nat) : Int) < ((s2.len : Nat) : Int)))
                                        (R (.bool false) (World.drew w12))
                                        (((0 : Int) ≤ ((s2.len : Nat) : Int) ∧ ((s2.len : Nat) : Int) ≤ ((s4.cap : Nat) : Int)) ∧
                                          ∃ (str2 : ByteArray),
                                          AtS Pr S1 (convert 26 9 (.slice (cutAt s4.a 0 s4.cap 1) ((Int.toNat ((s2.len : Nat) : Int)) - 0) (s4.cap - 0))) (.string str2) ∧
                                          ∃ (str3 : ByteArray),
                                          AtS Pr S1 (convert 26 9 (.slice s2.a s2.len s2.cap)) (.string str3) ∧
                                          brc (!(ByteArray.toList str2 == ByteArray.toList str3))
                                            (R (.bool false) (World.drew w12))
                                            (brc (decide (((s4.len : Nat) : Int) > (IntKind.wrap .i64 (((s2.len : Nat) : Int) + ((((Int.toNat (if 300 < ((x3.len : Nat) : Int) then 300 else ((x3.len : Nat) : Int))) - 0 : Nat) : Int))))))
                                                (R (.bool false) (World.drew w12))
                                                (((0 : Int) ≤ (IntKind.wrap .i64 (((s4.len : Nat) : Int) - ((s2.len : Nat) : Int))) ∧ (IntKind.wrap .i64 (((s4.len : Nat) : Int) - ((s2.len : Nat) : Int))) ≤ ((x3.cap - 0 : Nat) : Int)) ∧
                                                  ∃ (str4 : ByteArray),
                                                  AtS Pr S1 (convert 26 9 (.slice (cutAt (cutAt x3.a 0 x3.cap 1) 0 (x3.cap - 0) 1) ((Int.toNat (IntKind.wrap .i64 (((s4.len : Nat) : Int) - ((s2.len : Nat) : Int)))) - 0) ((x3.cap - 0) - 0))) (.string str4) ∧
                                                  ((0 : Int) ≤ ((s2.len : Nat) : Int) ∧ ((s2.len : Nat) : Int) ≤ ((s4.len : Nat) : Int)) ∧
                                                  ∃ (str5 : ByteArray),
                                                  AtS Pr S1 (convert 26 9 (.slice (cutAt s4.a (Int.toNat ((s2.len : Nat) : Int)) s4.cap 1) (s4.len - (Int.toNat ((s2.len : Nat) : Int))) (s4.cap - (Int.toNat ((s2.len : Nat) : Int))))) (.string str5) ∧
                                                  brc (!(ByteArray.toList str4 == ByteArray.toList str5))
                                                    (R (.bool false) (World.drew w12))
                                                    (brc (b1)
                                                        (brc (n5 != (0 : Int))
                                                            (R (.bool true) (World.drew w12))
                                                            (R (.bool (((s4.len : Nat) : Int) == (IntKind.wrap .i64 (((s2.len : Nat) : Int) + ((((Int.toNat (if 300 < ((x3.len : Nat) : Int) then 300 else ((x3.len : Nat) : Int))) - 0 : Nat) : Int)))))) (World.drew w12)))
                                                        (R (.bool false) (World.drew w12))))))))) (0, ()) w5))

theorem call10 {x0 : Int} {x1 : SV} {x2 : ByteArray} {x3 : SV} {x4 : Int} {x5_Names : Int} {x5_Bytes : SV} {w0 : World} {R : Ending → World → Prop} (h : ir10 x0 x1 x2 x3 x4 x5_Names x5_Bytes w0 fun v w => R (.returned v) w) : Calls Pr 10 #[.int .i64 x0, .slice x1.a x1.len x1.cap, .string x2, .slice x3.a x3.len x3.cap, .int .u8 x4, .agg #[(.int .i64 x5_Names), (.slice x5_Bytes.a x5_Bytes.len x5_Bytes.cap)]] w0 R := by
  refine calls_of_vc (ann := [(7, [(42, .int .i64)])]) (E := []) (args := [.int .i64 x0, .slice x1.a x1.len x1.cap, .string x2, .slice x3.a x3.len x3.cap, .int .u8 x4, .agg #[(.int .i64 x5_Names), (.slice x5_Bytes.a x5_Bytes.len x5_Bytes.cap)]]) follows Try.func10 rfl (by kernel_rfl) ?_
  apply by_eq h
  kernel_rfl

/-- creel/creellaw05.PlaceAtOnce -/
def ir13 (x0 : Int) (x1 : SV) (x2 : ByteArray) (x3 : SV) (x4 : Int) (x5_Names : Int) (x5_Bytes : SV) (w0 : World) (R : Value → World → Prop) : Prop :=
  ∃ (a1 : Addr) (w1 : World),
  Sem.run Pr (Instr.box 63 (.agg #[(.int .i64 x5_Names), (.slice x5_Bytes.a x5_Bytes.len x5_Bytes.cap)])) w0 = .ok (.pointer (some a1)) w1 ∧
  Calls Pr 47 #[] w1 fun e1 w2 =>
    ∃ (b1 : Bool),
    e1 = .returned (.bool b1) ∧
    Calls Pr 54 #[(.int .i64 x0), (.slice x1.a x1.len x1.cap)] w2 fun e2 w3 =>
      ∃ (p1 : Option Addr),
      e2 = .returned (.pointer p1) ∧
      ((0 : Int) ≤ (if 300 < ((x3.len : Nat) : Int) then 300 else ((x3.len : Nat) : Int)) ∧ (if 300 < ((x3.len : Nat) : Int) then 300 else ((x3.len : Nat) : Int)) ≤ ((x3.cap : Nat) : Int)) ∧
      brc (Option.isNone p1)
        (R (.bool false) w3)
        (Calls Pr 55 #[(.pointer p1)] w3 fun e3 w4 =>
            ∃ (n1 : Int),
            e3 = .returned (.int .i64 n1) ∧
            brc (n1 != (0 : Int))
              (R (.bool false) w4)
              (Calls Pr 56 #[(.pointer p1)] w4 fun e4 w5 =>
                  ∃ (s1 : SV),
                  e4 = .returned (.slice s1.a s1.len s1.cap) ∧
                  LoopT (σ := Int × Unit) (fun σ1 w6 K1 =>
                    ∀ _ : Env,
                    brc (decide (σ1.1 < ((s1.len : Nat) : Int)))
                      (((0 : Int) ≤ σ1.1 ∧ σ1.1 < ((s1.len : Nat) : Int)) ∧
                        optK s1.a fun a2 =>
                          ∃ (str1 : ByteArray),
                          At Pr w6 (loadVar 9 (Addr.add a2 (Int.toNat σ1.1 * 1))) (.string str1) ∧
                          Calls Pr 57 #[(.pointer p1), (.string str1)] w6 fun e5 w7 =>
                            ∃ (n2 : Int),
                            e5 = .returned (.int .i64 n2) ∧
                            K1 (IntKind.wrap .i64 (σ1.1 + 1), ()) w7)
                      (Calls Pr 42 #[(.pointer p1)] w6 fun e6 w8 =>
                          ∃ (p2 : Option Addr),
                          e6 = .returned (.pointer p2) ∧
                          brc (Option.isNone p2)
                            (R (.bool false) w8)
                            (Calls Pr 49 #[(.pointer p1), (.int .i64 (IntKind.wrap .i64 x4))] w8 fun e7 w9 =>
                                ∃ (n3 : Int),
                                e7 = .returned (.int .i64 n3) ∧
                                brc (n3 != (0 : Int))
                                  (R (.bool false) w9)
                                  (Calls Pr 48 #[(.pointer p1), (.string x2), (.slice (cutAt x3.a 0 x3.cap 1) ((Int.toNat (if 300 < ((x3.len : Nat) : Int) then 300 else ((x3.len : Nat) : Int))) - 0) (x3.cap - 0))] w9 fun e8 w10 =>
                                      ∃ (n4 : Int),
                                      e8 = .returned (.int .i64 n4) ∧
                                      ∃ (n5 : Int) (s2 : SV),
                                      At Pr w10 (loadVar 63 a1) (.agg #[(.int .i64 n5), (.slice s2.a s2.len s2.cap)]) ∧
                                      Calls Pr 45 #[(.pointer p1), (.agg #[(.int .i64 n5), (.slice s2.a s2.len s2.cap)])] w10 fun e9 w11 =>
                                        ∃ (n6 : Int),
                                        e9 = .returned (.int .i64 n6) ∧
                                        Calls Pr 28 #[(.pointer p2), (.string x2)] w11 fun e10 w12 =>
                                          ∃ (s3 : SV) (n7 : Int),
                                          e10 = .returned (.tuple #[(.slice s3.a s3.len s3.cap), (.int .i64 n7)]) ∧
                                          Calls Pr 28 #[(.pointer p1), (.string x2)] w12 fun e11 w13 =>
                                            ∃ (s4 : SV) (n8 : Int),
                                            e11 = .returned (.tuple #[(.slice s4.a s4.len s4.cap), (.int .i64 n8)]) ∧
                                            brc (n8 == (0 : Int))
                                              (∃ (str2 : ByteArray),
                                                At Pr w13 (convert 26 9 (.slice s4.a s4.len s4.cap)) (.string str2) ∧
                                                ∃ (str3 : ByteArray),
                                                At Pr w13 (convert 26 9 (.slice (cutAt x3.a 0 x3.cap 1) ((Int.toNat (if 300 < ((x3.len : Nat) : Int) then 300 else ((x3.len : Nat) : Int))) - 0) (x3.cap - 0))) (.string str3) ∧
                                                brc (n7 == n8)
                                                  (∃ (str4 : ByteArray),
                                                    At Pr w13 (convert 26 9 (.slice s3.a s3.len s3.cap)) (.string str4) ∧
                                                    ∃ (str5 : ByteArray),
                                                    At Pr w13 (convert 26 9 (.slice s4.a s4.len s4.cap)) (.string str5) ∧
                                                    brc (n4 == (0 : Int))
                                                      (brc (!(ByteArray.toList str2 == ByteArray.toList str3))
                                                          (R (.bool false) w13)
                                                          (brc (!(ByteArray.toList str2 == ByteArray.toList str3))
                                                              (brc (!(ByteArray.toList str4 == ByteArray.toList str5))
                                                                  (R (.bool false) w13)
                                                                  (Calls Pr 56 #[(.pointer p2)] w13 fun e12 w14 =>
                                                                      ∃ (s5 : SV),
                                                                      e12 = .returned (.slice s5.a s5.len s5.cap) ∧
                                                                      LoopT (σ := Int × Unit) (fun σ2 w15 K2 =>
                                                                        ∀ _ : Env,
                                                                        brc (decide (σ2.1 < ((s5.len : Nat) : Int)))
                                                                          (((0 : Int) ≤ σ2.1 ∧ σ2.1 < ((s5.len : Nat) : Int)) ∧
                                                                            optK s5.a fun a3 =>
                                                                              ∃ (str6 : ByteArray),
                                                                              At Pr w15 (loadVar 9 (Addr.add a3 (Int.toNat σ2.1 * 1))) (.string str6) ∧
                                                                              Calls Pr 28 #[(.pointer p2), (.string str6)] w15 fun e13 w16 =>
                                                                                ∃ (s6 : SV) (n9 : Int),
                                                                                e13 = .returned (.tuple #[(.slice s6.a s6.len s6.cap), (.int .i64 n9)]) ∧
                                                                                Calls Pr 28 #[(.pointer p1), (.string str6)] w16 fun e14 w17 =>
                                                                                  ∃ (s7 : SV) (n10 : Int),
                                                                                  e14 = .returned (.tuple #[(.slice s7.a s7.len s7.cap), (.int .i64 n10)]) ∧
                                                                                  brc (!(ByteArray.toList str6 == ByteArray.toList x2))
                                                                                    (brc (!(ByteArray.toList str6 == ByteArray.toList (⟨#[116, 109, 112]⟩ : ByteArray)))
                                                                                        (brc (n10 != (0 : Int))
                                                                                            (R (.bool false) w17)
                                                                                            (∃ (str7 : ByteArray),
                                                                                              At Pr w17 (convert 26 9 (.slice s6.a s6.len s6.cap)) (.string str7) ∧
                                                                                              ∃ (str8 : ByteArray),
                                                                                              At Pr w17 (convert 26 9 (.slice s7.a s7.len s7.cap)) (.string str8) ∧
                                                                                              brc (!(ByteArray.toList str7 == ByteArray.toList str8))
                                                                                                (R (.bool false) w17)
                                                                                                (K2 (IntKind.wrap .i64 (σ2.1 + 1), ()) w17)))
                                                                                        (K2 (IntKind.wrap .i64 (σ2.1 + 1), ()) w17))
                                                                                    (K2 (IntKind.wrap .i64 (σ2.1 + 1), ()) w17))
                                                                          (R (.bool b1) w15)) (0, ()) w14))
                                                              (Calls Pr 56 #[(.pointer p2)] w13 fun e15 w18 =>
                                                                  ∃ (s8 : SV),
                                                                  e15 = .returned (.slice s8.a s8.len s8.cap) ∧
                                                                  LoopT (σ := Int × Unit) (fun σ3 w19 K3 =>
                                                                    ∀ _ : Env,
                                                                    brc (decide (σ3.1 < ((s8.len : Nat) : Int)))
                                                                      (((0 : Int) ≤ σ3.1 ∧ σ3.1 < ((s8.len : Nat) : Int)) ∧
                                                                        optK s8.a fun a4 =>
                                                                          ∃ (str9 : ByteArray),
                                                                          At Pr w19 (loadVar 9 (Addr.add a4 (Int.toNat σ3.1 * 1))) (.string str9) ∧
                                                                          Calls Pr 28 #[(.pointer p2), (.string str9)] w19 fun e16 w20 =>
                                                                            ∃ (s9 : SV) (n11 : Int),
                                                                            e16 = .returned (.tuple #[(.slice s9.a s9.len s9.cap), (.int .i64 n11)]) ∧
                                                                            Calls Pr 28 #[(.pointer p1), (.string str9)] w20 fun e17 w21 =>
                                                                              ∃ (s10 : SV) (n12 : Int),
                                                                              e17 = .returned (.tuple #[(.slice s10.a s10.len s10.cap), (.int .i64 n12)]) ∧
                                                                              brc (!(ByteArray.toList str9 == ByteArray.toList x2))
                                                                                (brc (!(ByteArray.toList str9 == ByteArray.toList (⟨#[116, 109, 112]⟩ : ByteArray)))
                                                                                    (brc (n12 != (0 : Int))
                                                                                        (R (.bool false) w21)
                                                                                        (∃ (str10 : ByteArray),
                                                                                          At Pr w21 (convert 26 9 (.slice s9.a s9.len s9.cap)) (.string str10) ∧
                                                                                          ∃ (str11 : ByteArray),
                                                                                          At Pr w21 (convert 26 9 (.slice s10.a s10.len s10.cap)) (.string str11) ∧
                                                                                          brc (!(ByteArray.toList str10 == ByteArray.toList str11))
                                                                                            (R (.bool false) w21)
                                                                                            (K3 (IntKind.wrap .i64 (σ3.1 + 1), ()) w21)))
                                                                                    (K3 (IntKind.wrap .i64 (σ3.1 + 1), ()) w21))
                                                                                (K3 (IntKind.wrap .i64 (σ3.1 + 1), ()) w21))
                                                                      (R (.bool b1) w19)) (0, ()) w18)))
                                                      (brc (!(ByteArray.toList str2 == ByteArray.toList str3))
                                                          (brc (!(ByteArray.toList str4 == ByteArray.toList str5))
                                                              (R (.bool false) w13)
                                                              (Calls Pr 56 #[(.pointer p2)] w13 fun e18 w22 =>
                                                                  ∃ (s11 : SV),
                                                                  e18 = .returned (.slice s11.a s11.len s11.cap) ∧
                                                                  LoopT (σ := Int × Unit) (fun σ4 w23 K4 =>
                                                                    ∀ _ : Env,
                                                                    brc (decide (σ4.1 < ((s11.len : Nat) : Int)))
                                                                      (((0 : Int) ≤ σ4.1 ∧ σ4.1 < ((s11.len : Nat) : Int)) ∧
                                                                        optK s11.a fun a5 =>
                                                                          ∃ (str12 : ByteArray),
                                                                          At Pr w23 (loadVar 9 (Addr.add a5 (Int.toNat σ4.1 * 1))) (.string str12) ∧
                                                                          Calls Pr 28 #[(.pointer p2), (.string str12)] w23 fun e19 w24 =>
                                                                            ∃ (s12 : SV) (n13 : Int),
                                                                            e19 = .returned (.tuple #[(.slice s12.a s12.len s12.cap), (.int .i64 n13)]) ∧
                                                                            Calls Pr 28 #[(.pointer p1), (.string str12)] w24 fun e20 w25 =>
                                                                              ∃ (s13 : SV) (n14 : Int),
                                                                              e20 = .returned (.tuple #[(.slice s13.a s13.len s13.cap), (.int .i64 n14)]) ∧
                                                                              brc (!(ByteArray.toList str12 == ByteArray.toList x2))
                                                                                (brc (!(ByteArray.toList str12 == ByteArray.toList (⟨#[116, 109, 112]⟩ : ByteArray)))
                                                                                    (brc (n14 != (0 : Int))
                                                                                        (R (.bool false) w25)
                                                                                        (∃ (str13 : ByteArray),
                                                                                          At Pr w25 (convert 26 9 (.slice s12.a s12.len s12.cap)) (.string str13) ∧
                                                                                          ∃ (str14 : ByteArray),
                                                                                          At Pr w25 (convert 26 9 (.slice s13.a s13.len s13.cap)) (.string str14) ∧
                                                                                          brc (!(ByteArray.toList str13 == ByteArray.toList str14))
                                                                                            (R (.bool false) w25)
                                                                                            (K4 (IntKind.wrap .i64 (σ4.1 + 1), ()) w25)))
                                                                                    (K4 (IntKind.wrap .i64 (σ4.1 + 1), ()) w25))
                                                                                (K4 (IntKind.wrap .i64 (σ4.1 + 1), ()) w25))
                                                                      (R (.bool b1) w23)) (0, ()) w22))
                                                          (Calls Pr 56 #[(.pointer p2)] w13 fun e21 w26 =>
                                                              ∃ (s14 : SV),
                                                              e21 = .returned (.slice s14.a s14.len s14.cap) ∧
                                                              LoopT (σ := Int × Unit) (fun σ5 w27 K5 =>
                                                                ∀ _ : Env,
                                                                brc (decide (σ5.1 < ((s14.len : Nat) : Int)))
                                                                  (((0 : Int) ≤ σ5.1 ∧ σ5.1 < ((s14.len : Nat) : Int)) ∧
                                                                    optK s14.a fun a6 =>
                                                                      ∃ (str15 : ByteArray),
                                                                      At Pr w27 (loadVar 9 (Addr.add a6 (Int.toNat σ5.1 * 1))) (.string str15) ∧
                                                                      Calls Pr 28 #[(.pointer p2), (.string str15)] w27 fun e22 w28 =>
                                                                        ∃ (s15 : SV) (n15 : Int),
                                                                        e22 = .returned (.tuple #[(.slice s15.a s15.len s15.cap), (.int .i64 n15)]) ∧
                                                                        Calls Pr 28 #[(.pointer p1), (.string str15)] w28 fun e23 w29 =>
                                                                          ∃ (s16 : SV) (n16 : Int),
                                                                          e23 = .returned (.tuple #[(.slice s16.a s16.len s16.cap), (.int .i64 n16)]) ∧
                                                                          brc (!(ByteArray.toList str15 == ByteArray.toList x2))
                                                                            (brc (!(ByteArray.toList str15 == ByteArray.toList (⟨#[116, 109, 112]⟩ : ByteArray)))
                                                                                (brc (n16 != (0 : Int))
                                                                                    (R (.bool false) w29)
                                                                                    (∃ (str16 : ByteArray),
                                                                                      At Pr w29 (convert 26 9 (.slice s15.a s15.len s15.cap)) (.string str16) ∧
                                                                                      ∃ (str17 : ByteArray),
                                                                                      At Pr w29 (convert 26 9 (.slice s16.a s16.len s16.cap)) (.string str17) ∧
                                                                                      brc (!(ByteArray.toList str16 == ByteArray.toList str17))
                                                                                        (R (.bool false) w29)
                                                                                        (K5 (IntKind.wrap .i64 (σ5.1 + 1), ()) w29)))
                                                                                (K5 (IntKind.wrap .i64 (σ5.1 + 1), ()) w29))
                                                                            (K5 (IntKind.wrap .i64 (σ5.1 + 1), ()) w29))
                                                                  (R (.bool b1) w27)) (0, ()) w26)))
                                                  (brc (n4 == (0 : Int))
                                                      (brc (!(ByteArray.toList str2 == ByteArray.toList str3))
                                                          (R (.bool false) w13)
                                                          (brc (!(ByteArray.toList str2 == ByteArray.toList str3))
                                                              (brc (!false)
                                                                  (R (.bool false) w13)
                                                                  (Calls Pr 56 #[(.pointer p2)] w13 fun e24 w30 =>
                                                                      ∃ (s17 : SV),
                                                                      e24 = .returned (.slice s17.a s17.len s17.cap) ∧
                                                                      LoopT (σ := Int × Unit) (fun σ6 w31 K6 =>
                                                                        ∀ _ : Env,
                                                                        brc (decide (σ6.1 < ((s17.len : Nat) : Int)))
                                                                          (((0 : Int) ≤ σ6.1 ∧ σ6.1 < ((s17.len : Nat) : Int)) ∧
                                                                            optK s17.a fun a7 =>
                                                                              ∃ (str18 : ByteArray),
                                                                              At Pr w31 (loadVar 9 (Addr.add a7 (Int.toNat σ6.1 * 1))) (.string str18) ∧
                                                                              Calls Pr 28 #[(.pointer p2), (.string str18)] w31 fun e25 w32 =>
                                                                                ∃ (s18 : SV) (n17 : Int),
                                                                                e25 = .returned (.tuple #[(.slice s18.a s18.len s18.cap), (.int .i64 n17)]) ∧
                                                                                Calls Pr 28 #[(.pointer p1), (.string str18)] w32 fun e26 w33 =>
                                                                                  ∃ (s19 : SV) (n18 : Int),
                                                                                  e26 = .returned (.tuple #[(.slice s19.a s19.len s19.cap), (.int .i64 n18)]) ∧
                                                                                  brc (!(ByteArray.toList str18 == ByteArray.toList x2))
                                                                                    (brc (!(ByteArray.toList str18 == ByteArray.toList (⟨#[116, 109, 112]⟩ : ByteArray)))
                                                                                        (brc (n18 != (0 : Int))
                                                                                            (R (.bool false) w33)
                                                                                            (∃ (str19 : ByteArray),
                                                                                              At Pr w33 (convert 26 9 (.slice s18.a s18.len s18.cap)) (.string str19) ∧
                                                                                              ∃ (str20 : ByteArray),
                                                                                              At Pr w33 (convert 26 9 (.slice s19.a s19.len s19.cap)) (.string str20) ∧
                                                                                              brc (!(ByteArray.toList str19 == ByteArray.toList str20))
                                                                                                (R (.bool false) w33)
                                                                                                (K6 (IntKind.wrap .i64 (σ6.1 + 1), ()) w33)))
                                                                                        (K6 (IntKind.wrap .i64 (σ6.1 + 1), ()) w33))
                                                                                    (K6 (IntKind.wrap .i64 (σ6.1 + 1), ()) w33))
                                                                          (R (.bool b1) w31)) (0, ()) w30))
                                                              (Calls Pr 56 #[(.pointer p2)] w13 fun e27 w34 =>
                                                                  ∃ (s20 : SV),
                                                                  e27 = .returned (.slice s20.a s20.len s20.cap) ∧
                                                                  LoopT (σ := Int × Unit) (fun σ7 w35 K7 =>
                                                                    ∀ _ : Env,
                                                                    brc (decide (σ7.1 < ((s20.len : Nat) : Int)))
                                                                      (((0 : Int) ≤ σ7.1 ∧ σ7.1 < ((s20.len : Nat) : Int)) ∧
                                                                        optK s20.a fun a8 =>
                                                                          ∃ (str21 : ByteArray),
                                                                          At Pr w35 (loadVar 9 (Addr.add a8 (Int.toNat σ7.1 * 1))) (.string str21) ∧
                                                                          Calls Pr 28 #[(.pointer p2), (.string str21)] w35 fun e28 w36 =>
                                                                            ∃ (s21 : SV) (n19 : Int),
                                                                            e28 = .returned (.tuple #[(.slice s21.a s21.len s21.cap), (.int .i64 n19)]) ∧
                                                                            Calls Pr 28 #[(.pointer p1), (.string str21)] w36 fun e29 w37 =>
                                                                              ∃ (s22 : SV) (n20 : Int),
                                                                              e29 = .returned (.tuple #[(.slice s22.a s22.len s22.cap), (.int .i64 n20)]) ∧
                                                                              brc (!(ByteArray.toList str21 == ByteArray.toList x2))
                                                                                (brc (!(ByteArray.toList str21 == ByteArray.toList (⟨#[116, 109, 112]⟩ : ByteArray)))
                                                                                    (brc (n20 != (0 : Int))
                                                                                        (R (.bool false) w37)
                                                                                        (∃ (str22 : ByteArray),
                                                                                          At Pr w37 (convert 26 9 (.slice s21.a s21.len s21.cap)) (.string str22) ∧
                                                                                          ∃ (str23 : ByteArray),
                                                                                          At Pr w37 (convert 26 9 (.slice s22.a s22.len s22.cap)) (.string str23) ∧
                                                                                          brc (!(ByteArray.toList str22 == ByteArray.toList str23))
                                                                                            (R (.bool false) w37)
                                                                                            (K7 (IntKind.wrap .i64 (σ7.1 + 1), ()) w37)))
                                                                                    (K7 (IntKind.wrap .i64 (σ7.1 + 1), ()) w37))
                                                                                (K7 (IntKind.wrap .i64 (σ7.1 + 1), ()) w37))
                                                                      (R (.bool b1) w35)) (0, ()) w34)))
                                                      (brc (!(ByteArray.toList str2 == ByteArray.toList str3))
                                                          (brc (!false)
                                                              (R (.bool false) w13)
                                                              (Calls Pr 56 #[(.pointer p2)] w13 fun e30 w38 =>
                                                                  ∃ (s23 : SV),
                                                                  e30 = .returned (.slice s23.a s23.len s23.cap) ∧
                                                                  LoopT (σ := Int × Unit) (fun σ8 w39 K8 =>
                                                                    ∀ _ : Env,
                                                                    brc (decide (σ8.1 < ((s23.len : Nat) : Int)))
                                                                      (((0 : Int) ≤ σ8.1 ∧ σ8.1 < ((s23.len : Nat) : Int)) ∧
                                                                        optK s23.a fun a9 =>
                                                                          ∃ (str24 : ByteArray),
                                                                          At Pr w39 (loadVar 9 (Addr.add a9 (Int.toNat σ8.1 * 1))) (.string str24) ∧
                                                                          Calls Pr 28 #[(.pointer p2), (.string str24)] w39 fun e31 w40 =>
                                                                            ∃ (s24 : SV) (n21 : Int),
                                                                            e31 = .returned (.tuple #[(.slice s24.a s24.len s24.cap), (.int .i64 n21)]) ∧
                                                                            Calls Pr 28 #[(.pointer p1), (.string str24)] w40 fun e32 w41 =>
                                                                              ∃ (s25 : SV) (n22 : Int),
                                                                              e32 = .returned (.tuple #[(.slice s25.a s25.len s25.cap), (.int .i64 n22)]) ∧
                                                                              brc (!(ByteArray.toList str24 == ByteArray.toList x2))
                                                                                (brc (!(ByteArray.toList str24 == ByteArray.toList (⟨#[116, 109, 112]⟩ : ByteArray)))
                                                                                    (brc (n22 != (0 : Int))
                                                                                        (R (.bool false) w41)
                                                                                        (∃ (str25 : ByteArray),
                                                                                          At Pr w41 (convert 26 9 (.slice s24.a s24.len s24.cap)) (.string str25) ∧
                                                                                          ∃ (str26 : ByteArray),
                                                                                          At Pr w41 (convert 26 9 (.slice s25.a s25.len s25.cap)) (.string str26) ∧
                                                                                          brc (!(ByteArray.toList str25 == ByteArray.toList str26))
                                                                                            (R (.bool false) w41)
                                                                                            (K8 (IntKind.wrap .i64 (σ8.1 + 1), ()) w41)))
                                                                                    (K8 (IntKind.wrap .i64 (σ8.1 + 1), ()) w41))
                                                                                (K8 (IntKind.wrap .i64 (σ8.1 + 1), ()) w41))
                                                                      (R (.bool b1) w39)) (0, ()) w38))
                                                          (Calls Pr 56 #[(.pointer p2)] w13 fun e33 w42 =>
                                                              ∃ (s26 : SV),
                                                              e33 = .returned (.slice s26.a s26.len s26.cap) ∧
                                                              LoopT (σ := Int × Unit) (fun σ9 w43 K9 =>
                                                                ∀ _ : Env,
                                                                brc (decide (σ9.1 < ((s26.len : Nat) : Int)))
                                                                  (((0 : Int) ≤ σ9.1 ∧ σ9.1 < ((s26.len : Nat) : Int)) ∧
                                                                    optK s26.a fun a10 =>
                                                                      ∃ (str27 : ByteArray),
                                                                      At Pr w43 (loadVar 9 (Addr.add a10 (Int.toNat σ9.1 * 1))) (.string str27) ∧
                                                                      Calls Pr 28 #[(.pointer p2), (.string str27)] w43 fun e34 w44 =>
                                                                        ∃ (s27 : SV) (n23 : Int),
                                                                        e34 = .returned (.tuple #[(.slice s27.a s27.len s27.cap), (.int .i64 n23)]) ∧
                                                                        Calls Pr 28 #[(.pointer p1), (.string str27)] w44 fun e35 w45 =>
                                                                          ∃ (s28 : SV) (n24 : Int),
                                                                          e35 = .returned (.tuple #[(.slice s28.a s28.len s28.cap), (.int .i64 n24)]) ∧
                                                                          brc (!(ByteArray.toList str27 == ByteArray.toList x2))
                                                                            (brc (!(ByteArray.toList str27 == ByteArray.toList (⟨#[116, 109, 112]⟩ : ByteArray)))
                                                                                (brc (n24 != (0 : Int))
                                                                                    (R (.bool false) w45)
                                                                                    (∃ (str28 : ByteArray),
                                                                                      At Pr w45 (convert 26 9 (.slice s27.a s27.len s27.cap)) (.string str28) ∧
                                                                                      ∃ (str29 : ByteArray),
                                                                                      At Pr w45 (convert 26 9 (.slice s28.a s28.len s28.cap)) (.string str29) ∧
                                                                                      brc (!(ByteArray.toList str28 == ByteArray.toList str29))
                                                                                        (R (.bool false) w45)
                                                                                        (K9 (IntKind.wrap .i64 (σ9.1 + 1), ()) w45)))
                                                                                (K9 (IntKind.wrap .i64 (σ9.1 + 1), ()) w45))
                                                                            (K9 (IntKind.wrap .i64 (σ9.1 + 1), ()) w45))
                                                                  (R (.bool b1) w43)) (0, ()) w42))))
                                              (brc (n7 == n8)
                                                  (∃ (str30 : ByteArray),
                                                    At Pr w13 (convert 26 9 (.slice s3.a s3.len s3.cap)) (.string str30) ∧
                                                    ∃ (str31 : ByteArray),
                                                    At Pr w13 (convert 26 9 (.slice s4.a s4.len s4.cap)) (.string str31) ∧
                                                    brc (n4 == (0 : Int))
                                                      (brc (!false)
                                                          (R (.bool false) w13)
                                                          (brc (!false)
                                                              (brc (!(ByteArray.toList str30 == ByteArray.toList str31))
                                                                  (R (.bool false) w13)
                                                                  (Calls Pr 56 #[(.pointer p2)] w13 fun e36 w46 =>
                                                                      ∃ (s29 : SV),
                                                                      e36 = .returned (.slice s29.a s29.len s29.cap) ∧
                                                                      LoopT (σ := Int × Unit) (fun σ10 w47 K10 =>
                                                                        ∀ _ : Env,
                                                                        brc (decide (σ10.1 < ((s29.len : Nat) : Int)))
                                                                          (((0 : Int) ≤ σ10.1 ∧ σ10.1 < ((s29.len : Nat) : Int)) ∧
                                                                            optK s29.a fun a11 =>
                                                                              ∃ (str32 : ByteArray),
                                                                              At Pr w47 (loadVar 9 (Addr.add a11 (Int.toNat σ10.1 * 1))) (.string str32) ∧
                                                                              Calls Pr 28 #[(.pointer p2), (.string str32)] w47 fun e37 w48 =>
                                                                                ∃ (s30 : SV) (n25 : Int),
                                                                                e37 = .returned (.tuple #[(.slice s30.a s30.len s30.cap), (.int .i64 n25)]) ∧
                                                                                Calls Pr 28 #[(.pointer p1), (.string str32)] w48 fun e38 w49 =>
                                                                                  ∃ (s31 : SV) (n26 : Int),
                                                                                  e38 = .returned (.tuple #[(.slice s31.a s31.len s31.cap), (.int .i64 n26)]) ∧
                                                                                  brc (!(ByteArray.toList str32 == ByteArray.toList x2))
                                                                                    (brc (!(ByteArray.toList str32 == ByteArray.toList (⟨#[116, 109, 112]⟩ : ByteArray)))
                                                                                        (brc (n26 != (0 : Int))
                                                                                            (R (.bool false) w49)
                                                                                            (∃ (str33 : ByteArray),
                                                                                              At Pr w49 (convert 26 9 (.slice s30.a s30.len s30.cap)) (.string str33) ∧
                                                                                              ∃ (str34 : ByteArray),
                                                                                              At Pr w49 (convert 26 9 (.slice s31.a s31.len s31.cap)) (.string str34) ∧
                                                                                              brc (!(ByteArray.toList str33 == ByteArray.toList str34))
                                                                                                (R (.bool false) w49)
                                                                                                (K10 (IntKind.wrap .i64 (σ10.1 + 1), ()) w49)))
                                                                                        (K10 (IntKind.wrap .i64 (σ10.1 + 1), ()) w49))
                                                                                    (K10 (IntKind.wrap .i64 (σ10.1 + 1), ()) w49))
                                                                          (R (.bool b1) w47)) (0, ()) w46))
                                                              (Calls Pr 56 #[(.pointer p2)] w13 fun e39 w50 =>
                                                                  ∃ (s32 : SV),
                                                                  e39 = .returned (.slice s32.a s32.len s32.cap) ∧
                                                                  LoopT (σ := Int × Unit) (fun σ11 w51 K11 =>
                                                                    ∀ _ : Env,
                                                                    brc (decide (σ11.1 < ((s32.len : Nat) : Int)))
                                                                      (((0 : Int) ≤ σ11.1 ∧ σ11.1 < ((s32.len : Nat) : Int)) ∧
                                                                        optK s32.a fun a12 =>
                                                                          ∃ (str35 : ByteArray),
                                                                          At Pr w51 (loadVar 9 (Addr.add a12 (Int.toNat σ11.1 * 1))) (.string str35) ∧
                                                                          Calls Pr 28 #[(.pointer p2), (.string str35)] w51 fun e40 w52 =>
                                                                            ∃ (s33 : SV) (n27 : Int),
                                                                            e40 = .returned (.tuple #[(.slice s33.a s33.len s33.cap), (.int .i64 n27)]) ∧
                                                                            Calls Pr 28 #[(.pointer p1), (.string str35)] w52 fun e41 w53 =>
                                                                              ∃ (s34 : SV) (n28 : Int),
                                                                              e41 = .returned (.tuple #[(.slice s34.a s34.len s34.cap), (.int .i64 n28)]) ∧
                                                                              brc (!(ByteArray.toList str35 == ByteArray.toList x2))
                                                                                (brc (!(ByteArray.toList str35 == ByteArray.toList (⟨#[116, 109, 112]⟩ : ByteArray)))
                                                                                    (brc (n28 != (0 : Int))
                                                                                        (R (.bool false) w53)
                                                                                        (∃ (str36 : ByteArray),
                                                                                          At Pr w53 (convert 26 9 (.slice s33.a s33.len s33.cap)) (.string str36) ∧
                                                                                          ∃ (str37 : ByteArray),
                                                                                          At Pr w53 (convert 26 9 (.slice s34.a s34.len s34.cap)) (.string str37) ∧
                                                                                          brc (!(ByteArray.toList str36 == ByteArray.toList str37))
                                                                                            (R (.bool false) w53)
                                                                                            (K11 (IntKind.wrap .i64 (σ11.1 + 1), ()) w53)))
                                                                                    (K11 (IntKind.wrap .i64 (σ11.1 + 1), ()) w53))
                                                                                (K11 (IntKind.wrap .i64 (σ11.1 + 1), ()) w53))
                                                                      (R (.bool b1) w51)) (0, ()) w50)))
                                                      (brc (!false)
                                                          (brc (!(ByteArray.toList str30 == ByteArray.toList str31))
                                                              (R (.bool false) w13)
                                                              (Calls Pr 56 #[(.pointer p2)] w13 fun e42 w54 =>
                                                                  ∃ (s35 : SV),
                                                                  e42 = .returned (.slice s35.a s35.len s35.cap) ∧
                                                                  LoopT (σ := Int × Unit) (fun σ12 w55 K12 =>
                                                                    ∀ _ : Env,
                                                                    brc (decide (σ12.1 < ((s35.len : Nat) : Int)))
                                                                      (((0 : Int) ≤ σ12.1 ∧ σ12.1 < ((s35.len : Nat) : Int)) ∧
                                                                        optK s35.a fun a13 =>
                                                                          ∃ (str38 : ByteArray),
                                                                          At Pr w55 (loadVar 9 (Addr.add a13 (Int.toNat σ12.1 * 1))) (.string str38) ∧
                                                                          Calls Pr 28 #[(.pointer p2), (.string str38)] w55 fun e43 w56 =>
                                                                            ∃ (s36 : SV) (n29 : Int),
                                                                            e43 = .returned (.tuple #[(.slice s36.a s36.len s36.cap), (.int .i64 n29)]) ∧
                                                                            Calls Pr 28 #[(.pointer p1), (.string str38)] w56 fun e44 w57 =>
                                                                              ∃ (s37 : SV) (n30 : Int),
                                                                              e44 = .returned (.tuple #[(.slice s37.a s37.len s37.cap), (.int .i64 n30)]) ∧
                                                                              brc (!(ByteArray.toList str38 == ByteArray.toList x2))
                                                                                (brc (!(ByteArray.toList str38 == ByteArray.toList (⟨#[116, 109, 112]⟩ : ByteArray)))
                                                                                    (brc (n30 != (0 : Int))
                                                                                        (R (.bool false) w57)
                                                                                        (∃ (str39 : ByteArray),
                                                                                          At Pr w57 (convert 26 9 (.slice s36.a s36.len s36.cap)) (.string str39) ∧
                                                                                          ∃ (str40 : ByteArray),
                                                                                          At Pr w57 (convert 26 9 (.slice s37.a s37.len s37.cap)) (.string str40) ∧
                                                                                          brc (!(ByteArray.toList str39 == ByteArray.toList str40))
                                                                                            (R (.bool false) w57)
                                                                                            (K12 (IntKind.wrap .i64 (σ12.1 + 1), ()) w57)))
                                                                                    (K12 (IntKind.wrap .i64 (σ12.1 + 1), ()) w57))
                                                                                (K12 (IntKind.wrap .i64 (σ12.1 + 1), ()) w57))
                                                                      (R (.bool b1) w55)) (0, ()) w54))
                                                          (Calls Pr 56 #[(.pointer p2)] w13 fun e45 w58 =>
                                                              ∃ (s38 : SV),
                                                              e45 = .returned (.slice s38.a s38.len s38.cap) ∧
                                                              LoopT (σ := Int × Unit) (fun σ13 w59 K13 =>
                                                                ∀ _ : Env,
                                                                brc (decide (σ13.1 < ((s38.len : Nat) : Int)))
                                                                  (((0 : Int) ≤ σ13.1 ∧ σ13.1 < ((s38.len : Nat) : Int)) ∧
                                                                    optK s38.a fun a14 =>
                                                                      ∃ (str41 : ByteArray),
                                                                      At Pr w59 (loadVar 9 (Addr.add a14 (Int.toNat σ13.1 * 1))) (.string str41) ∧
                                                                      Calls Pr 28 #[(.pointer p2), (.string str41)] w59 fun e46 w60 =>
                                                                        ∃ (s39 : SV) (n31 : Int),
                                                                        e46 = .returned (.tuple #[(.slice s39.a s39.len s39.cap), (.int .i64 n31)]) ∧
                                                                        Calls Pr 28 #[(.pointer p1), (.string str41)] w60 fun e47 w61 =>
                                                                          ∃ (s40 : SV) (n32 : Int),
                                                                          e47 = .returned (.tuple #[(.slice s40.a s40.len s40.cap), (.int .i64 n32)]) ∧
                                                                          brc (!(ByteArray.toList str41 == ByteArray.toList x2))
                                                                            (brc (!(ByteArray.toList str41 == ByteArray.toList (⟨#[116, 109, 112]⟩ : ByteArray)))
                                                                                (brc (n32 != (0 : Int))
                                                                                    (R (.bool false) w61)
                                                                                    (∃ (str42 : ByteArray),
                                                                                      At Pr w61 (convert 26 9 (.slice s39.a s39.len s39.cap)) (.string str42) ∧
                                                                                      ∃ (str43 : ByteArray),
                                                                                      At Pr w61 (convert 26 9 (.slice s40.a s40.len s40.cap)) (.string str43) ∧
                                                                                      brc (!(ByteArray.toList str42 == ByteArray.toList str43))
                                                                                        (R (.bool false) w61)
                                                                                        (K13 (IntKind.wrap .i64 (σ13.1 + 1), ()) w61)))
                                                                                (K13 (IntKind.wrap .i64 (σ13.1 + 1), ()) w61))
                                                                            (K13 (IntKind.wrap .i64 (σ13.1 + 1), ()) w61))
                                                                  (R (.bool b1) w59)) (0, ()) w58)))
                                                  (brc (n4 == (0 : Int))
                                                      (brc (!false)
                                                          (R (.bool false) w13)
                                                          (brc (!false)
                                                              (brc (!false)
                                                                  (R (.bool false) w13)
                                                                  (Calls Pr 56 #[(.pointer p2)] w13 fun e48 w62 =>
                                                                      ∃ (s41 : SV),
                                                                      e48 = .returned (.slice s41.a s41.len s41.cap) ∧
                                                                      LoopT (σ := Int × Unit) (fun σ14 w63 K14 =>
                                                                        ∀ _ : Env,
                                                                        brc (decide (σ14.1 < ((s41.len : Nat) : Int)))
                                                                          (((0 : Int) ≤ σ14.1 ∧ σ14.1 < ((s41.len : Nat) : Int)) ∧
                                                                            optK s41.a fun a15 =>
                                                                              ∃ (str44 : ByteArray),
                                                                              At Pr w63 (loadVar 9 (Addr.add a15 (Int.toNat σ14.1 * 1))) (.string str44) ∧
                                                                              Calls Pr 28 #[(.pointer p2), (.string str44)] w63 fun e49 w64 =>
                                                                                ∃ (s42 : SV) (n33 : Int),
                                                                                e49 = .returned (.tuple #[(.slice s42.a s42.len s42.cap), (.int .i64 n33)]) ∧
                                                                                Calls Pr 28 #[(.pointer p1), (.string str44)] w64 fun e50 w65 =>
                                                                                  ∃ (s43 : SV) (n34 : Int),
                                                                                  e50 = .returned (.tuple #[(.slice s43.a s43.len s43.cap), (.int .i64 n34)]) ∧
                                                                                  brc (!(ByteArray.toList str44 == ByteArray.toList x2))
                                                                                    (brc (!(ByteArray.toList str44 == ByteArray.toList (⟨#[116, 109, 112]⟩ : ByteArray)))
                                                                                        (brc (n34 != (0 : Int))
                                                                                            (R (.bool false) w65)
                                                                                            (∃ (str45 : ByteArray),
                                                                                              At Pr w65 (convert 26 9 (.slice s42.a s42.len s42.cap)) (.string str45) ∧
                                                                                              ∃ (str46 : ByteArray),
                                                                                              At Pr w65 (convert 26 9 (.slice s43.a s43.len s43.cap)) (.string str46) ∧
                                                                                              brc (!(ByteArray.toList str45 == ByteArray.toList str46))
                                                                                                (R (.bool false) w65)
                                                                                                (K14 (IntKind.wrap .i64 (σ14.1 + 1), ()) w65)))
                                                                                        (K14 (IntKind.wrap .i64 (σ14.1 + 1), ()) w65))
                                                                                    (K14 (IntKind.wrap .i64 (σ14.1 + 1), ()) w65))
                                                                          (R (.bool b1) w63)) (0, ()) w62))
                                                              (Calls Pr 56 #[(.pointer p2)] w13 fun e51 w66 =>
                                                                  ∃ (s44 : SV),
                                                                  e51 = .returned (.slice s44.a s44.len s44.cap) ∧
                                                                  LoopT (σ := Int × Unit) (fun σ15 w67 K15 =>
                                                                    ∀ _ : Env,
                                                                    brc (decide (σ15.1 < ((s44.len : Nat) : Int)))
                                                                      (((0 : Int) ≤ σ15.1 ∧ σ15.1 < ((s44.len : Nat) : Int)) ∧
                                                                        optK s44.a fun a16 =>
                                                                          ∃ (str47 : ByteArray),
                                                                          At Pr w67 (loadVar 9 (Addr.add a16 (Int.toNat σ15.1 * 1))) (.string str47) ∧
                                                                          Calls Pr 28 #[(.pointer p2), (.string str47)] w67 fun e52 w68 =>
                                                                            ∃ (s45 : SV) (n35 : Int),
                                                                            e52 = .returned (.tuple #[(.slice s45.a s45.len s45.cap), (.int .i64 n35)]) ∧
                                                                            Calls Pr 28 #[(.pointer p1), (.string str47)] w68 fun e53 w69 =>
                                                                              ∃ (s46 : SV) (n36 : Int),
                                                                              e53 = .returned (.tuple #[(.slice s46.a s46.len s46.cap), (.int .i64 n36)]) ∧
                                                                              brc (!(ByteArray.toList str47 == ByteArray.toList x2))
                                                                                (brc (!(ByteArray.toList str47 == ByteArray.toList (⟨#[116, 109, 112]⟩ : ByteArray)))
                                                                                    (brc (n36 != (0 : Int))
                                                                                        (R (.bool false) w69)
                                                                                        (∃ (str48 : ByteArray),
                                                                                          At Pr w69 (convert 26 9 (.slice s45.a s45.len s45.cap)) (.string str48) ∧
                                                                                          ∃ (str49 : ByteArray),
                                                                                          At Pr w69 (convert 26 9 (.slice s46.a s46.len s46.cap)) (.string str49) ∧
                                                                                          brc (!(ByteArray.toList str48 == ByteArray.toList str49))
                                                                                            (R (.bool false) w69)
                                                                                            (K15 (IntKind.wrap .i64 (σ15.1 + 1), ()) w69)))
                                                                                    (K15 (IntKind.wrap .i64 (σ15.1 + 1), ()) w69))
                                                                                (K15 (IntKind.wrap .i64 (σ15.1 + 1), ()) w69))
                                                                      (R (.bool b1) w67)) (0, ()) w66)))
                                                      (brc (!false)
                                                          (brc (!false)
                                                              (R (.bool false) w13)
                                                              (Calls Pr 56 #[(.pointer p2)] w13 fun e54 w70 =>
                                                                  ∃ (s47 : SV),
                                                                  e54 = .returned (.slice s47.a s47.len s47.cap) ∧
                                                                  LoopT (σ := Int × Unit) (fun σ16 w71 K16 =>
                                                                    ∀ _ : Env,
                                                                    brc (decide (σ16.1 < ((s47.len : Nat) : Int)))
                                                                      (((0 : Int) ≤ σ16.1 ∧ σ16.1 < ((s47.len : Nat) : Int)) ∧
                                                                        optK s47.a fun a17 =>
                                                                          ∃ (str50 : ByteArray),
                                                                          At Pr w71 (loadVar 9 (Addr.add a17 (Int.toNat σ16.1 * 1))) (.string str50) ∧
                                                                          Calls Pr 28 #[(.pointer p2), (.string str50)] w71 fun e55 w72 =>
                                                                            ∃ (s48 : SV) (n37 : Int),
                                                                            e55 = .returned (.tuple #[(.slice s48.a s48.len s48.cap), (.int .i64 n37)]) ∧
                                                                            Calls Pr 28 #[(.pointer p1), (.string str50)] w72 fun e56 w73 =>
                                                                              ∃ (s49 : SV) (n38 : Int),
                                                                              e56 = .returned (.tuple #[(.slice s49.a s49.len s49.cap), (.int .i64 n38)]) ∧
                                                                              brc (!(ByteArray.toList str50 == ByteArray.toList x2))
                                                                                (brc (!(ByteArray.toList str50 == ByteArray.toList (⟨#[116, 109, 112]⟩ : ByteArray)))
                                                                                    (brc (n38 != (0 : Int))
                                                                                        (R (.bool false) w73)
                                                                                        (∃ (str51 : ByteArray),
                                                                                          At Pr w73 (convert 26 9 (.slice s48.a s48.len s48.cap)) (.string str51) ∧
                                                                                          ∃ (str52 : ByteArray),
                                                                                          At Pr w73 (convert 26 9 (.slice s49.a s49.len s49.cap)) (.string str52) ∧
                                                                                          brc (!(ByteArray.toList str51 == ByteArray.toList str52))
                                                                                            (R (.bool false) w73)
                                                                                            (K16 (IntKind.wrap .i64 (σ16.1 + 1), ()) w73)))
                                                                                    (K16 (IntKind.wrap .i64 (σ16.1 + 1), ()) w73))
                                                                                (K16 (IntKind.wrap .i64 (σ16.1 + 1), ()) w73))
                                                                      (R (.bool b1) w71)) (0, ()) w70))
                                                          (Calls Pr 56 #[(.pointer p2)] w13 fun e57 w74 =>
                                                              ∃ (s50 : SV),
                                                              e57 = .returned (.slice s50.a s50.len s50.cap) ∧
                                                              LoopT (σ := Int × Unit) (fun σ17 w75 K17 =>
                                                                ∀ _ : Env,
                                                                brc (decide (σ17.1 < ((s50.len : Nat) : Int)))
                                                                  (((0 : Int) ≤ σ17.1 ∧ σ17.1 < ((s50.len : Nat) : Int)) ∧
                                                                    optK s50.a fun a18 =>
                                                                      ∃ (str53 : ByteArray),
                                                                      At Pr w75 (loadVar 9 (Addr.add a18 (Int.toNat σ17.1 * 1))) (.string str53) ∧
                                                                      Calls Pr 28 #[(.pointer p2), (.string str53)] w75 fun e58 w76 =>
                                                                        ∃ (s51 : SV) (n39 : Int),
                                                                        e58 = .returned (.tuple #[(.slice s51.a s51.len s51.cap), (.int .i64 n39)]) ∧
                                                                        Calls Pr 28 #[(.pointer p1), (.string str53)] w76 fun e59 w77 =>
                                                                          ∃ (s52 : SV) (n40 : Int),
                                                                          e59 = .returned (.tuple #[(.slice s52.a s52.len s52.cap), (.int .i64 n40)]) ∧
                                                                          brc (!(ByteArray.toList str53 == ByteArray.toList x2))
                                                                            (brc (!(ByteArray.toList str53 == ByteArray.toList (⟨#[116, 109, 112]⟩ : ByteArray)))
                                                                                (brc (n40 != (0 : Int))
                                                                                    (R (.bool false) w77)
                                                                                    (∃ (str54 : ByteArray),
                                                                                      At Pr w77 (convert 26 9 (.slice s51.a s51.len s51.cap)) (.string str54) ∧
                                                                                      ∃ (str55 : ByteArray),
                                                                                      At Pr w77 (convert 26 9 (.slice s52.a s52.len s52.cap)) (.string str55) ∧
                                                                                      brc (!(ByteArray.toList str54 == ByteArray.toList str55))
                                                                                        (R (.bool false) w77)
                                                                                        (K17 (IntKind.wrap .i64 (σ17.1 + 1), ()) w77)))
                                                                                (K17 (IntKind.wrap .i64 (σ17.1 + 1), ()) w77))
                                                                            (K17 (IntKind.wrap .i64 (σ17.1 + 1), ()) w77))
                                                                  (R (.bool b1) w75)) (0, ()) w74)))))))) (0, ()) w5))

theorem call13 {x0 : Int} {x1 : SV} {x2 : ByteArray} {x3 : SV} {x4 : Int} {x5_Names : Int} {x5_Bytes : SV} {w0 : World} {R : Ending → World → Prop} (h : ir13 x0 x1 x2 x3 x4 x5_Names x5_Bytes w0 fun v w => R (.returned v) w) : Calls Pr 13 #[.int .i64 x0, .slice x1.a x1.len x1.cap, .string x2, .slice x3.a x3.len x3.cap, .int .u8 x4, .agg #[(.int .i64 x5_Names), (.slice x5_Bytes.a x5_Bytes.len x5_Bytes.cap)]] w0 R := by
  refine calls_of_vc (ann := [(7, [(51, .int .i64)]), (23, [(125, .int .i64)])]) (E := []) (args := [.int .i64 x0, .slice x1.a x1.len x1.cap, .string x2, .slice x3.a x3.len x3.cap, .int .u8 x4, .agg #[(.int .i64 x5_Names), (.slice x5_Bytes.a x5_Bytes.len x5_Bytes.cap)]]) follows Try.func13 rfl (by kernel_rfl) ?_
  apply by_eq h
  kernel_rfl

/-- creel/creellaw05.PlaceDrops -/
def ir14 (x0 : Int) (x1 : SV) (x2 : SV) (x3_Names : Int) (x3_Bytes : SV) (w0 : World) (R : Value → World → Prop) : Prop :=
  ∃ (a1 : Addr) (w1 : World),
  Sem.run Pr (Instr.box 63 (.agg #[(.int .i64 x3_Names), (.slice x3_Bytes.a x3_Bytes.len x3_Bytes.cap)])) w0 = .ok (.pointer (some a1)) w1 ∧
  Calls Pr 47 #[] w1 fun e1 w2 =>
    ∃ (b1 : Bool),
    e1 = .returned (.bool b1) ∧
    Calls Pr 54 #[(.int .i64 x0), (.slice x1.a x1.len x1.cap)] w2 fun e2 w3 =>
      ∃ (p1 : Option Addr),
      e2 = .returned (.pointer p1) ∧
      ((0 : Int) ≤ (if 10 < ((x2.len : Nat) : Int) then 10 else ((x2.len : Nat) : Int)) ∧ (if 10 < ((x2.len : Nat) : Int) then 10 else ((x2.len : Nat) : Int)) ≤ ((x2.cap : Nat) : Int)) ∧
      brc (Option.isNone p1)
        (R (.bool false) w3)
        (Calls Pr 55 #[(.pointer p1)] w3 fun e3 w4 =>
            ∃ (n1 : Int),
            e3 = .returned (.int .i64 n1) ∧
            brc (n1 != (0 : Int))
              (R (.bool false) w4)
              (Calls Pr 56 #[(.pointer p1)] w4 fun e4 w5 =>
                  ∃ (s1 : SV),
                  e4 = .returned (.slice s1.a s1.len s1.cap) ∧
                  LoopT (σ := Int × Unit) (fun σ1 w6 K1 =>
                    ∀ _ : Env,
                    brc (decide (σ1.1 < ((s1.len : Nat) : Int)))
                      (((0 : Int) ≤ σ1.1 ∧ σ1.1 < ((s1.len : Nat) : Int)) ∧
                        optK s1.a fun a2 =>
                          ∃ (str1 : ByteArray),
                          At Pr w6 (loadVar 9 (Addr.add a2 (Int.toNat σ1.1 * 1))) (.string str1) ∧
                          Calls Pr 57 #[(.pointer p1), (.string str1)] w6 fun e5 w7 =>
                            ∃ (n2 : Int),
                            e5 = .returned (.int .i64 n2) ∧
                            K1 (IntKind.wrap .i64 (σ1.1 + 1), ()) w7)
                      (Calls Pr 42 #[(.pointer p1)] w6 fun e6 w8 =>
                          ∃ (p2 : Option Addr),
                          e6 = .returned (.pointer p2) ∧
                          brc (Option.isNone p2)
                            (R (.bool false) w8)
                            (Calls Pr 67 #[(.pointer p1), (.slice (cutAt x2.a 0 x2.cap 1) ((Int.toNat (if 10 < ((x2.len : Nat) : Int) then 10 else ((x2.len : Nat) : Int))) - 0) (x2.cap - 0))] w8 fun e7 w9 =>
                                ∃ (n3 : Int),
                                e7 = .returned (.int .i64 n3) ∧
                                brc (n3 != (0 : Int))
                                  (R (.bool false) w9)
                                  (∃ (n4 : Int) (s2 : SV),
                                    At Pr w9 (loadVar 63 a1) (.agg #[(.int .i64 n4), (.slice s2.a s2.len s2.cap)]) ∧
                                    Calls Pr 45 #[(.pointer p1), (.agg #[(.int .i64 n4), (.slice s2.a s2.len s2.cap)])] w9 fun e8 w10 =>
                                      ∃ (n5 : Int),
                                      e8 = .returned (.int .i64 n5) ∧
                                      brc (n5 != (0 : Int))
                                        (R (.bool false) w10)
                                        (Calls Pr 56 #[(.pointer p2)] w10 fun e9 w11 =>
                                            ∃ (s3 : SV),
                                            e9 = .returned (.slice s3.a s3.len s3.cap) ∧
                                            LoopT (σ := Int × Unit) (fun σ2 w12 K2 =>
                                              ∀ _ : Env,
                                              brc (decide (σ2.1 < ((s3.len : Nat) : Int)))
                                                (((0 : Int) ≤ σ2.1 ∧ σ2.1 < ((s3.len : Nat) : Int)) ∧
                                                  optK s3.a fun a3 =>
                                                    ∃ (str2 : ByteArray),
                                                    At Pr w12 (loadVar 9 (Addr.add a3 (Int.toNat σ2.1 * 1))) (.string str2) ∧
                                                    LoopT (σ := Int × Bool × Unit) (fun σ3 w13 K3 =>
                                                      ∀ _ : Env,
                                                      brc (decide (σ3.1 < ((((Int.toNat (if 10 < ((x2.len : Nat) : Int) then 10 else ((x2.len : Nat) : Int))) - 0 : Nat) : Int))))
                                                        (((0 : Int) ≤ σ3.1 ∧ σ3.1 < (((Int.toNat (if 10 < ((x2.len : Nat) : Int) then 10 else ((x2.len : Nat) : Int))) - 0 : Nat) : Int)) ∧
                                                          optK (cutAt x2.a 0 x2.cap 1) fun a4 =>
                                                            ∃ (str3 : ByteArray),
                                                            At Pr w13 (loadVar 9 (Addr.add a4 (Int.toNat σ3.1 * 1))) (.string str3) ∧
                                                            brc (σ3.2.1)
                                                              (K3 (IntKind.wrap .i64 (σ3.1 + 1), true, ()) w13)
                                                              (K3 (IntKind.wrap .i64 (σ3.1 + 1), (ByteArray.toList str3 == ByteArray.toList str2), ()) w13))
                                                        (Calls Pr 28 #[(.pointer p2), (.string str2)] w13 fun e10 w14 =>
                                                            ∃ (s4 : SV) (n6 : Int),
                                                            e10 = .returned (.tuple #[(.slice s4.a s4.len s4.cap), (.int .i64 n6)]) ∧
                                                            Calls Pr 28 #[(.pointer p1), (.string str2)] w14 fun e11 w15 =>
                                                              ∃ (s5 : SV) (n7 : Int),
                                                              e11 = .returned (.tuple #[(.slice s5.a s5.len s5.cap), (.int .i64 n7)]) ∧
                                                              brc (σ3.2.1)
                                                                (brc (n7 != (2 : Int))
                                                                    (R (.bool false) w15)
                                                                    (brc (!σ3.2.1)
                                                                        (brc (n7 != (0 : Int))
                                                                            (R (.bool false) w15)
                                                                            (∃ (str4 : ByteArray),
                                                                              At Pr w15 (convert 26 9 (.slice s4.a s4.len s4.cap)) (.string str4) ∧
                                                                              ∃ (str5 : ByteArray),
                                                                              At Pr w15 (convert 26 9 (.slice s5.a s5.len s5.cap)) (.string str5) ∧
                                                                              brc (!(ByteArray.toList str4 == ByteArray.toList str5))
                                                                                (R (.bool false) w15)
                                                                                (K2 (IntKind.wrap .i64 (σ2.1 + 1), ()) w15)))
                                                                        (K2 (IntKind.wrap .i64 (σ2.1 + 1), ()) w15)))
                                                                (brc (!σ3.2.1)
                                                                    (brc (n7 != (0 : Int))
                                                                        (R (.bool false) w15)
                                                                        (∃ (str6 : ByteArray),
                                                                          At Pr w15 (convert 26 9 (.slice s4.a s4.len s4.cap)) (.string str6) ∧
                                                                          ∃ (str7 : ByteArray),
                                                                          At Pr w15 (convert 26 9 (.slice s5.a s5.len s5.cap)) (.string str7) ∧
                                                                          brc (!(ByteArray.toList str6 == ByteArray.toList str7))
                                                                            (R (.bool false) w15)
                                                                            (K2 (IntKind.wrap .i64 (σ2.1 + 1), ()) w15)))
                                                                    (K2 (IntKind.wrap .i64 (σ2.1 + 1), ()) w15)))) (0, false, ()) w12)
                                                (R (.bool b1) w12)) (0, ()) w11))))) (0, ()) w5))

theorem call14 {x0 : Int} {x1 : SV} {x2 : SV} {x3_Names : Int} {x3_Bytes : SV} {w0 : World} {R : Ending → World → Prop} (h : ir14 x0 x1 x2 x3_Names x3_Bytes w0 fun v w => R (.returned v) w) : Calls Pr 14 #[.int .i64 x0, .slice x1.a x1.len x1.cap, .slice x2.a x2.len x2.cap, .agg #[(.int .i64 x3_Names), (.slice x3_Bytes.a x3_Bytes.len x3_Bytes.cap)]] w0 R := by
  refine calls_of_vc (ann := [(7, [(43, .int .i64)]), (15, [(70, .int .i64)]), (19, [(76, .int .i64), (17, .bool)])]) (E := []) (args := [.int .i64 x0, .slice x1.a x1.len x1.cap, .slice x2.a x2.len x2.cap, .agg #[(.int .i64 x3_Names), (.slice x3_Bytes.a x3_Bytes.len x3_Bytes.cap)]]) follows Try.func14 rfl (by kernel_rfl) ?_
  apply by_eq h
  kernel_rfl

end Go.Proofs.Ytonjaaljnjjjcaa
