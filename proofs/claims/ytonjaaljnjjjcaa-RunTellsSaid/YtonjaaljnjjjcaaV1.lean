/- A weakest-precondition reading of the model's code as plain logic: 'vc', and its soundness. Conditions: none. -/
import Derived.OrdersHeld
import Derived.Tactics
import Derived.Defers
import Derived.RangeFuncRecord
set_option linter.unusedVariables false
set_option linter.unusedSimpArgs false
namespace Go.Proofs.Ytonjaaljnjjjcaa
open Go

/-- What the temporaries hold. -/
abbrev Env := Nat → Value

def upd (ρ : Env) (d : Nat) (v : Value) : Env := fun i => match Nat.beq i d with
  | true => v
  | false => ρ i

def updO (ρ : Env) (d : Option Nat) (v : Value) : Env := match d with
  | some d => upd ρ d v
  | none => ρ

def ev (ρ : Env) : Operand → Value
  | .tmp t => ρ t
  | .const v => v
  | .global g => .pointer (some ⟨g, 0, none⟩)
  | .func f => .func (.func f) #[] #[]

def brc (t : Bool) (A B : Prop) : Prop := match t with
  | true => A
  | false => B

theorem brc_intro {t : Bool} {A B : Prop} (ha : t = true → A) (hb : t = false → B) : brc t A B := by
  cases t
  · exact hb rfl
  · exact ha rfl
theorem brc_true {t : Bool} {A B : Prop} (h : t = true) (ha : A) : brc t A B := by subst h; exact ha
theorem brc_false {t : Bool} {A B : Prop} (h : t = false) (hb : B) : brc t A B := by subst h; exact hb

def optK {α : Type} (p : Option α) (K : α → Prop) : Prop := match p with
  | some a => K a
  | none => False

/-- A slice's value. -/
structure SV where
  a : Option Addr
  len : Nat
  cap : Nat
def SV.v (s : SV) : Value := .slice s.a s.len s.cap

/-- A function's value. -/
structure FV where
  f : Fn
  a : Array Value
  b : Array Value

/-- How a value is read: in one world, or in every world of a class. -/
abbrev Rd := Sem Value → Value → Prop
def At (P : Program) (w : World) : Rd := fun m v => m.run P w = .ok v w
def AtS (P : Program) (S : World → Prop) : Rd := fun m v => ∀ w, S w → m.run P w = .ok v w

def exLeaf (d : TypeDesc) (K : Value → Prop) : Prop := match d with
  | .bool => ∃ b, K (.bool b)
  | .int k => ∃ n, K (.int k n)
  | .string => ∃ s, K (.string s)
  | .pointer _ => ∃ a, K (.pointer a)
  | .slice _ => ∃ s : SV, K (.slice s.a s.len s.cap)
  | .map _ _ => ∃ r, K (.map r)
  | .func _ _ _ => ∃ x : FV, K (.func x.f x.a x.b)
  | _ => ∃ v, K v

mutual
def exCells (P : Program) : Nat → TypeId → (List Value → Prop) → Prop
  | 0, _, _ => False
  | n + 1, t, K => match P.underlying t with
    | some (.struct fs) => exFields P n fs.toList K
    | some (.array _ _) => ∃ cs : Array Value, K cs.toList
    | some d => exLeaf d fun v => K [v]
    | none => False
def exFields (P : Program) : Nat → List Field → (List Value → Prop) → Prop
  | 0, _, _ => False
  | _ + 1, [], K => K []
  | n + 1, f :: fs, K => exCells P n f.type fun a => exFields P n fs fun b => K (a ++ b)
end

def exTy (P : Program) (t : TypeId) (K : Value → Prop) : Prop := match P.underlying t with
  | some (.struct fs) => exFields P 40 fs.toList fun l => K (.agg l.toArray)
  | some (.array _ _) => ∃ cs : Array Value, K (.agg cs)
  | some d => exLeaf d K
  | none => False

def exTys (P : Program) : List TypeId → (List Value → Prop) → Prop
  | [], K => K []
  | t :: ts, K => exTy P t fun v => exTys P ts fun vs => K (v :: vs)

def exRes (P : Program) (f : FuncId) (K : Value → Prop) : Prop := match P.funcs[f]? with
  | some fn => match fn.resultTypes.toList with
    | [] => K (.tuple #[])
    | [t] => exTy P t K
    | ts => exTys P ts fun vs => K (.tuple vs.toArray)
  | none => False

theorem exLeaf_ex {d : TypeDesc} {K : Value → Prop} (h : exLeaf d K) : ∃ v, K v := by
  unfold exLeaf at h
  split at h
  all_goals (obtain ⟨b, h⟩ := h; exact ⟨_, h⟩)

mutual
theorem exCells_ex {P : Program} : ∀ (n : Nat) (t : TypeId) (K : List Value → Prop), exCells P n t K → ∃ l, K l
  | 0, _, _, h => by simp [exCells] at h
  | n + 1, t, K, h => by
    unfold exCells at h
    split at h
    · exact exFields_ex n _ K h
    · obtain ⟨cs, h⟩ := h; exact ⟨_, h⟩
    · obtain ⟨v, h⟩ := exLeaf_ex h; exact ⟨_, h⟩
    · exact h.elim
theorem exFields_ex {P : Program} : ∀ (n : Nat) (fs : List Field) (K : List Value → Prop), exFields P n fs K → ∃ l, K l
  | 0, _, _, h => by simp [exFields] at h
  | _ + 1, [], K, h => by simp [exFields] at h; exact ⟨_, h⟩
  | n + 1, f :: fs, K, h => by
    simp only [exFields] at h
    obtain ⟨a, h⟩ := exCells_ex n f.type _ h
    obtain ⟨b, h⟩ := exFields_ex n fs _ h
    exact ⟨_, h⟩
end

theorem exTy_ex {P : Program} {t : TypeId} {K : Value → Prop} (h : exTy P t K) : ∃ v, K v := by
  unfold exTy at h
  split at h
  · obtain ⟨v, h⟩ := exFields_ex _ _ _ h; exact ⟨_, h⟩
  · obtain ⟨cs, h⟩ := h; exact ⟨_, h⟩
  · exact exLeaf_ex h
  · exact h.elim

theorem exTys_ex {P : Program} : ∀ (ts : List TypeId) (K : List Value → Prop), exTys P ts K → ∃ l, K l
  | [], K, h => ⟨_, h⟩
  | t :: ts, K, h => by
    simp only [exTys] at h
    obtain ⟨v, h⟩ := exTy_ex h
    obtain ⟨l, h⟩ := exTys_ex ts _ h
    exact ⟨_, h⟩

theorem exRes_ex {P : Program} {f : FuncId} {K : Value → Prop} (h : exRes P f K) : ∃ v, K v := by
  unfold exRes at h
  split at h
  · split at h
    · exact ⟨_, h⟩
    · exact exTy_ex h
    · obtain ⟨l, h⟩ := exTys_ex _ _ h; exact ⟨_, h⟩
  · exact h.elim

def kEq (k k' : IntKind) (A : Prop) : Prop := match decEq k k' with
  | isTrue _ => A
  | isFalse _ => False

theorem kEq_of {k k' : IntKind} {A : Prop} (h : kEq k k' A) : k = k' ∧ A := by
  unfold kEq at h
  split at h
  · rename_i e _; exact ⟨e, h⟩
  · exact h.elim

/-- A binary operation on plain values; all else by 'E'. -/
def binV (P : Program) (op : BinOp) (t : TypeId) (x y : Value) (E : Prop) (K : Value → Prop) : Prop :=
  match op, x, y with
  | .shl, .int k a, .int _ b => 0 ≤ b ∧ K (.int k (k.wrap (a * 2 ^ min b.toNat k.bits)))
  | .shr, .int k a, .int _ b => 0 ≤ b ∧ K (.int k (a.fdiv (2 ^ min b.toNat k.bits)))
  | .add, .int k a, .int k' b => kEq k k' (K (.int k (k.wrap (a + b))))
  | .sub, .int k a, .int k' b => kEq k k' (K (.int k (k.wrap (a - b))))
  | .mul, .int k a, .int k' b => kEq k k' (K (.int k (k.wrap (a * b))))
  | .quo, .int k a, .int k' b => kEq k k' (b ≠ 0 ∧ K (.int k (k.wrap (a.tdiv b))))
  | .rem, .int k a, .int k' b => kEq k k' (b ≠ 0 ∧ K (.int k (a.tmod b)))
  | .and, .int k a, .int k' b => kEq k k' (K (.int k (k.wrap (BitVec.ofInt k.bits a &&& BitVec.ofInt k.bits b).toNat)))
  | .or, .int k a, .int k' b => kEq k k' (K (.int k (k.wrap (BitVec.ofInt k.bits a ||| BitVec.ofInt k.bits b).toNat)))
  | .xor, .int k a, .int k' b => kEq k k' (K (.int k (k.wrap (BitVec.ofInt k.bits a ^^^ BitVec.ofInt k.bits b).toNat)))
  | .andNot, .int k a, .int k' b => kEq k k' (K (.int k (k.wrap (BitVec.ofInt k.bits a &&& ~~~BitVec.ofInt k.bits b).toNat)))
  | .eql, .int k a, .int k' b => kEq k k' (K (.bool (a == b)))
  | .neq, .int k a, .int k' b => kEq k k' (K (.bool (a != b)))
  | .lss, .int k a, .int k' b => kEq k k' (K (.bool (a < b)))
  | .leq, .int k a, .int k' b => kEq k k' (K (.bool (a ≤ b)))
  | .gtr, .int k a, .int k' b => kEq k k' (K (.bool (a > b)))
  | .geq, .int k a, .int k' b => kEq k k' (K (.bool (a ≥ b)))
  | .add, .string a, .string b => ((a.size + b.size : Nat) : Int) ≤ IntKind.i64.max ∧ K (.string (a ++ b))
  | .eql, .string a, .string b => K (.bool (a.toList == b.toList))
  | .neq, .string a, .string b => K (.bool !(a.toList == b.toList))
  | .lss, .string a, .string b => K (.bool (Op.bytesLess a.toList b.toList))
  | .leq, .string a, .string b => K (.bool (Op.bytesLess a.toList b.toList || a.toList == b.toList))
  | .gtr, .string a, .string b => K (.bool !(Op.bytesLess a.toList b.toList || a.toList == b.toList))
  | .geq, .string a, .string b => K (.bool !(Op.bytesLess a.toList b.toList))
  | .eql, .bool a, .bool b => match P.underlying t with
    | some .bool => K (.bool (a == b))
    | _ => E
  | .neq, .bool a, .bool b => match P.underlying t with
    | some .bool => K (.bool (!(a == b)))
    | _ => E
  | .eql, .pointer p, .pointer none => match P.underlying t with
    | some (.pointer _) => K (.bool p.isNone)
    | _ => E
  | .neq, .pointer p, .pointer none => match P.underlying t with
    | some (.pointer _) => K (.bool (!p.isNone))
    | _ => E
  | _, _, _ => E

/-- Where a field lies in its struct; none where it is of no size. -/
def fieldOff (P : Program) (s : TypeId) (f : Nat) : Option Nat :=
  match P.underlying s with
  | some (.struct fs) => match fs.toList[f]? with
    | some x => match P.info? x.type with
      | some i => match i.size with
        | 0 => none
        | _ + 1 => some x.offset
      | none => none
    | none => none
  | _ => none

def sizeOf? (P : Program) (t : TypeId) : Option Nat := (P.info? t).map (·.size)

/-- One bound of a slice expression. -/
def boundK (x : Option Value) (dflt : Nat) (top : Nat) (K : Nat → Prop) : Prop :=
  match x with
  | none => K dflt
  | some (.int _ i) => (0 ≤ i ∧ i ≤ top) ∧ K i.toNat
  | some _ => False

def addAt (a : Option Addr) (n : Nat) : Option Addr := a.map (·.add n)

/-- The address behind l of m elements: at the end the old one. -/
def cutAt (a : Option Addr) (l m size : Nat) : Option Addr := if m = l then a else a.map (·.add (l * size))

def plainFunc (P : Program) (f : FuncId) : Bool := match P.funcs[f]? with
  | some fn => fn.body.isSome && !(fn.name == "runtime.NumGoroutine")
  | none => false

def isStringT (P : Program) (t : TypeId) : Bool := match P.underlying t with
  | some .string => true
  | _ => false

/-- Does an operation only read? -/
def isRd (P : Program) : Op → Bool
  | .move _ | .assign _ | .pick .. | .load .. | .nilCheck _ | .binOp .. | .unOp .. | .fieldAddr .. | .field .. | .indexAddr .. | .index .. | .lookup .. | .extract .. | .makeFunc .. | .build .. | .makeInterface .. | .typeAssert .. | .entry _ => true
  | .slice .. => true
  | .convert s d _ => match P.underlying s, P.underlying d with
    | some (.int _), some (.int _) => true
    | some (.slice _), some .string => true
    | some .string, some .string => true
    | _, _ => false
  | .call { callee := .builtin .len, .. } | .call { callee := .builtin .cap, .. } | .call { callee := .builtin .min, .. } | .call { callee := .builtin .max, .. } => true
  | _ => false

def elemT (P : Program) (t : TypeId) : TypeId := match P.underlying t with
  | some (.slice e) => e
  | some (.map _ e) => e
  | some (.array _ e) => e
  | some (.pointer e) => e
  | _ => 0

/-- The cells from 'off' on overwritten. -/
def putL : List Value → Nat → List Value → List Value
  | cs, _, [] => cs
  | cs, off, v :: vs => putL (cs.set off v) (off + 1) vs

def fillL (place : Nat → Option (Nat × Nat)) (cells : List Value) : List (Nat × Value) → Option (List Value)
  | [] => some cells
  | p :: rest => match place p.1 with
    | none => none
    | some q => match Nat.beq p.2.cells.toList.length q.2 && Nat.ble (q.1 + p.2.cells.toList.length) cells.length with
      | true => fillL place (putL cells q.1 p.2.cells.toList) rest
      | false => none

def placeL (P : Program) : List Field → Nat → Option (Nat × Nat)
  | [], _ => none
  | f :: fs, i => match i with
    | 0 => match sizeOf? P f.type with
      | some n => some (f.offset, n)
      | none => none
    | i + 1 => placeL P fs i

def sizesOk (P : Program) : List Field → Bool
  | [] => true
  | f :: fs => match sizeOf? P f.type with
    | some _ => sizesOk P fs
    | none => false

/-- What a struct's literal is. -/
def buildV (P : Program) (t : TypeId) (parts : List (Nat × Value)) : Option (List Value) :=
  match P.underlying t, P.info? t with
  | some (.struct fs), some i => match i.zero, sizesOk P fs.toList with
    | some z, true => fillL (placeL P fs.toList) z.cells.toList parts
    | _, _ => none
  | _, _ => none

def evp (ρ : Env) (xs : Array (Nat × Operand)) : List (Nat × Value) := xs.toList.map fun p => (p.1, ev ρ p.2)

def evs (ρ : Env) (xs : Array Operand) : List Value := xs.toList.map (ev ρ)

/-- What min and max of whole numbers are. -/
def minMaxV (mx : Bool) (l : List Value) (E : Prop) (K : Value → Prop) : Prop := match l with
  | [.int k a, .int k' b] => kEq k k' (K (.int k (match mx with
    | true => if b > a then b else a
    | false => if b < a then b else a)))
  | _ => E

def lookN (l : List (Nat × TypeId)) (i : Nat) : Option TypeId := match l with
  | [] => none
  | x :: l => match Nat.beq i x.1 with
    | true => some x.2
    | false => lookN l i

/-- The value that a reading operation yields. -/
def rdOp (P : Program) (E : List (Nat × TypeId)) (R : Rd) (ρ : Env) (op : Op) (ty : TypeId) (K : Value → Prop) : Prop :=
  match op with
  | .move x | .assign x => K (ev ρ x)
  | .pick c a b => match ev ρ c with
    | .bool t => brc t (K (ev ρ a)) (K (ev ρ b))
    | _ => False
  | .load t x => match ev ρ x with
    | .pointer (some a) => exTy P t fun v => R (loadVar t a) v ∧ K v
    | _ => False
  | .nilCheck x => match ev ρ x with
    | .pointer p => optK p fun a => K (.pointer (some a))
    | .func (.func f) a b => K (.func (.func f) a b)
    | _ => False
  | .binOp o t x y _ => binV P o t (ev ρ x) (ev ρ y) (exTy P ty fun v => R (do eqGuard o t x y (ev ρ x) (ev ρ y); binOp o t (ev ρ x) (ev ρ y)) v ∧ K v) K
  | .unOp o _ x => match o, ev ρ x with
    | .not, .bool b => K (.bool !b)
    | .neg, .int k n => K (.int k (k.wrap (0 - n)))
    | .xor, .int k n => K (.int k (k.wrap (BitVec.ofInt k.bits (if k.signed then -1 else k.max) ^^^ BitVec.ofInt k.bits n).toNat))
    | _, _ => False
  | .fieldAddr s x f => match ev ρ x, fieldOff P s f with
    | .pointer (some a), some off => K (.pointer (some (a.add off)))
    | _, _ => False
  | .indexAddr t x i => match P.underlying t, ev ρ x, ev ρ i with
    | some (.slice e), .slice a len _, .int _ i => match sizeOf? P e with
      | some size => (0 ≤ i ∧ i < (len : Int)) ∧ optK a fun a => K (.pointer (some (a.add (i.toNat * size))))
      | none => False
    | some (.array len e), .pointer (some a), .int _ i => match sizeOf? P e with
      | some size => (0 ≤ i ∧ i < (len : Int)) ∧ K (.pointer (some (a.add (i.toNat * size))))
      | none => False
    | _, _, _ => False
  | .extract x i => match ev ρ x with
    | .tuple vs => match vs.toList[i]? with
      | some v => K v
      | none => False
    | _ => False
  | .makeFunc f first captured => K (.func f (evs ρ first).toArray (evs ρ captured).toArray)
  | .slice t x lo hi mx => match P.underlying t, ev ρ x with
    | some (.slice e), .slice a len cap => match sizeOf? P e, mx with
      | some size, none => boundK (hi.map (ev ρ)) len cap fun h => boundK (lo.map (ev ρ)) 0 h fun l => K (.slice (cutAt a l cap size) (h - l) (cap - l))
      | some size, some m => match hi with
        | some hi => boundK (some (ev ρ m)) cap cap fun m => boundK (some (ev ρ hi)) len m fun h => boundK (lo.map (ev ρ)) 0 h fun l => K (.slice (cutAt a l m size) (h - l) (m - l))
        | none => False
      | none, _ => False
    | some .string, .string s => match mx with
      | none => boundK (hi.map (ev ρ)) s.size s.size fun h => boundK (lo.map (ev ρ)) 0 h fun l => K (.string (s.extract l h))
      | some _ => False
    | _, _ => False
  | .convert s d x => match P.underlying s, P.underlying d, ev ρ x with
    | some (.int _), some (.int k), .int _ n => K (.int k (k.wrap n))
    | some .string, some .string, .string z => K (.string z)
    | _, _, v => exTy P ty fun u => R (convert s d v) u ∧ K u
  | .call { callee := .builtin .len, args, argTypes } => match evs ρ args, argTypes.toList with
    | [.slice _ n _], [t] => match P.underlying t with
      | some (.slice _) => K (.int .i64 n)
      | _ => False
    | [.string s], [t] => match P.underlying t with
      | some .string => K (.int .i64 s.size)
      | _ => False
    | vs, _ => exTy P ty fun v => R (Builtin.len_ argTypes ty vs.toArray) v ∧ K v
  | .call { callee := .builtin .cap, args, argTypes } => exTy P ty fun v => R (Builtin.cap_ argTypes ty (evs ρ args).toArray) v ∧ K v
  | .call { callee := .builtin .min, args, argTypes } => minMaxV false (evs ρ args) (exTy P ty fun v => R (Builtin.min_ argTypes ty (evs ρ args).toArray) v ∧ K v) K
  | .call { callee := .builtin .max, args, argTypes } => minMaxV true (evs ρ args) (exTy P ty fun v => R (Builtin.max_ argTypes ty (evs ρ args).toArray) v ∧ K v) K
  | .lookup t x i ok => match ok with
    | false => exTy P (elemT P t) fun v => R (Instr.lookup t (ev ρ x) (ev ρ i) false) v ∧ K v
    | true => exTy P (elemT P t) fun v => ∃ b, R (Instr.lookup t (ev ρ x) (ev ρ i) true) (.tuple #[v, .bool b]) ∧ K (.tuple #[v, .bool b])
  | .entry x => match x with
    | .tmp t => match lookN E t with
      | some m => match P.underlying m with
        | some (.map k e) => exTy P k fun u => exTy P e fun v => R (Instr.entry (ev ρ x)) (.tuple #[u, v]) ∧ K (.tuple #[u, v])
        | _ => False
      | none => False
    | _ => False
  | .field t x f => exTy P ty fun v => R (Instr.field t (ev ρ x) f) v ∧ K v
  | .index t x i => exTy P ty fun v => R (Instr.index t (ev ρ x) (ev ρ i)) v ∧ K v
  | .build t parts => match buildV P t (evp ρ parts) with
    | some cs => K (.agg cs.toArray)
    | none => exTy P t fun v => R (Instr.build t (evp ρ parts).toArray) v ∧ K v
  | .makeInterface t x => exTy P ty fun v => R (Instr.makeInterface t (ev ρ x)) v ∧ K v
  | .typeAssert x a b ok => match ok with
    | false => exTy P b fun v => R (Instr.typeAssert (ev ρ x) a b false) v ∧ K v
    | true => False
  | _ => False

/-- Frames in no round, or in one. -/
abbrev Fr (r : Option Nat) : Fence := { Fence.wide with round := r }

/-- What an operation comes to. -/
def Does (P : Program) (m : Sem Next) (w : World) (K : Value → World → Prop) : Prop :=
  match m.run P w with
  | .ok (.value v) w' => K v w'
  | .ok .skip w' => K undef w'
  | .ok (.enter f args) w' => Calls P f args w' fun e w'' => ∃ v, e = .returned v ∧ K v w''
  | .ok (.round l f tmps assign body) w' => RoundIn (Fr none) 0 P l f tmps assign body w' fun e w'' => ∃ v, e = .returned v ∧ K v w''
  | _ => False

/-- A round of a range over a function: yield is called. -/
def YieldC (P : Program) (l : Nat) (args : Array Value) (w : World) (R : Ending → World → Prop) : Prop :=
  ∃ f tmps assign body w', (Instr.yield l args).run P w = .ok (.round l f tmps assign body) w' ∧ RoundIn (Fr none) 0 P l f tmps assign body w' R

def RunA (P : Program) (m : Sem Value) (w : World) (K : Value → World → Prop) : Prop := ∃ a w', m.run P w = .ok (.pointer (some a)) w' ∧ K (.pointer (some a)) w'
def RunS (P : Program) (m : Sem Value) (w : World) (K : Value → World → Prop) : Prop := ∃ (s : SV) (w' : World), m.run P w = .ok (.slice s.a s.len s.cap) w' ∧ K (.slice s.a s.len s.cap) w'
def RunM (P : Program) (m : Sem Value) (w : World) (K : Value → World → Prop) : Prop := ∃ r w', m.run P w = .ok (.map (some r)) w' ∧ K (.map (some r)) w'
def RunI (P : Program) (m : Sem Value) (w : World) (K : Value → World → Prop) : Prop := ∃ n w', m.run P w = .ok (.int .i64 n) w' ∧ K (.int .i64 n) w'
def RunT (P : Program) (m : Sem Value) (w : World) (K : Value → World → Prop) : Prop := ∃ w', m.run P w = .ok (.tuple #[]) w' ∧ K (.tuple #[]) w'
def RunU (P : Program) (m : Sem Unit) (w : World) (K : World → Prop) : Prop := ∃ w', m.run P w = .ok () w' ∧ K w'

/-- A step of a range over a map: none is left, or an entry comes. -/
def NextM (P : Program) (it : Value) (ty : TypeId) (w : World) (over : World → Prop) (entry : Value → Value → World → Prop) : Prop :=
  match (Instr.next it false ty).run P w with
  | .ok (.tuple ⟨[.bool false]⟩) w' => over w'
  | .ok (.tuple ⟨[.bool true, k, v]⟩) w' => entry k v w'
  | _ => False

/-- A call of a function value. -/
def callV (P : Program) (v : Value) (args : List Value) (w : World) (R : Ending → World → Prop) : Prop := match v with
  | .func (.func f) first captured => plainFunc P f = true ∧ Calls P f (first.toList ++ args ++ captured.toList).toArray w R
  | .func (.yield l) first _ => YieldC P l (first.toList ++ args).toArray w R
  | _ => False

def tupT (P : Program) (ty : TypeId) (i : Nat) : TypeId := match P.underlying ty with
  | some (.tuple ts) => ts.toList.getD i 0
  | _ => 0

/-- An operation that writes, makes memory, or calls. -/
def efOp (P : Program) (ρ : Env) (op : Op) (ty : TypeId) (w : World) (K : Value → World → Prop) : Prop :=
  match op with
  | .alloc t => RunA P (Instr.alloc t true (.tuple #[])) w K
  | .box t x => RunA P (Instr.box t (ev ρ x)) w K
  | .buildSlice t n parts => RunS P (Instr.buildSlice t n (evp ρ parts).toArray) w K
  | .store t a x => RunU P (Instr.storeAt t (ev ρ a) (ev ρ x)) w (K undef)
  | .mapUpdate t m k x | .insert t m k x => RunU P (Instr.mapUpdate t (ev ρ m) (ev ρ k) (ev ρ x)) w (K undef)
  | .makeMap t r => RunM P (Instr.makeMap t (r.map (ev ρ))) w K
  | .makeSlice t l c => RunS P (Instr.makeSlice t (ev ρ l) (ev ρ c)) w K
  | .convert s d x => RunS P (convert s d (ev ρ x)) w K
  | .range t x => RunA P (Instr.range t (ev ρ x)) w K
  | .next it s => match s with
    | false => NextM P (ev ρ it) ty w (K (.tuple #[.bool false])) fun k v w' => K (.tuple #[.bool true, k, v]) w'
    | true => False
  | .call { callee := .builtin .append, args, argTypes } => RunS P (Builtin.append_ argTypes ty (evs ρ args).toArray) w K
  | .call { callee := .builtin .copy, args, argTypes } => RunI P (Builtin.copy_ argTypes ty (evs ρ args).toArray) w K
  | .call { callee := .builtin .delete, args, argTypes } => RunT P (Builtin.delete_ argTypes ty (evs ρ args).toArray) w K
  | .call { callee := .value (.func f), args, .. } => match plainFunc P f with
    | true => Calls P f (evs ρ args).toArray w fun e w' => exRes P f fun v => e = .returned v ∧ K v w'
    | false => Does P (callFunc f (evs ρ args).toArray) w K
  | .call { callee := .value f, args, .. } => callV P (ev ρ f) (evs ρ args) w fun e w' => exTy P ty fun v => e = .returned v ∧ K v w'
  | _ => False

/-- The temporary that a guard looks at. -/
def guardDst (ops : List Oper) (j : Nat) : Option Nat := match ops[j]? with
  | some o => o.dst
  | none => none

/-- A guard's two ways. -/
def guardK (ops : List Oper) (g : Option (Nat × Bool)) (ρ : Env) (yes no : Env → Prop) : Prop :=
  match g with
  | none => yes ρ
  | some (j, want) => match guardDst ops j with
    | none => False
    | some d => match ρ d with
      | .bool t => match want with
        | true => brc t (yes (upd ρ d (.bool true))) (no (upd ρ d (.bool false)))
        | false => brc t (no (upd ρ d (.bool true))) (yes (upd ρ d (.bool false)))
      | _ => no ρ

def vcOp (P : Program) (E : List (Nat × TypeId)) (ρ : Env) (o : Oper) (w : World) (K : Value → World → Prop) : Prop :=
  match isRd P o.op with
  | true => rdOp P E (At P w) ρ o.op o.type fun v => K v w
  | false => efOp P ρ o.op o.type w K

/-- A region in the order of the text. -/
def vcOps (P : Program) (E : List (Nat × TypeId)) (ops : List Oper) : List Oper → Env → World → (Env → World → Prop) → Prop
  | [], ρ, w, K => K ρ w
  | o :: rest, ρ, w, K => guardK ops o.guard ρ
      (fun ρ => vcOp P E ρ o w fun v w' => vcOps P E ops rest (updO ρ o.dst v) w' K)
      (fun ρ => vcOps P E ops rest (updO ρ o.dst undef) w K)

def conjL {α : Type} (F : α → Prop) : List α → Prop
  | [] => True
  | [x] => F x
  | x :: y :: l => F x ∧ conjL F (y :: l)

theorem conjL_all {α : Type} {F : α → Prop} : ∀ {l : List α}, conjL F l → ∀ x ∈ l, F x
  | [], _, x, hx => by cases hx
  | [y], h, x, hx => by
    rw [List.mem_singleton] at hx; subst hx; exact h
  | y :: z :: l, h, x, hx => by
    rcases List.mem_cons.1 hx with rfl | hx
    · exact h.1
    · exact conjL_all h.2 x hx

/-- The first of those that only reads. -/
def firstRd (P : Program) (ops : List Oper) : List Nat → Option Nat
  | [] => none
  | i :: l => match ops[i]? with
    | some o => match isRd P o.op with
      | true => some i
      | false => firstRd P ops l
    | none => firstRd P ops l

/-- Does a reading hang on memory? -/
def heldRd (P : Program) : Op → Bool
  | .load .. | .lookup .. | .entry _ => true
  | .convert s _ _ => match P.underlying s with
    | some (.slice _) => true
    | _ => false
  | .binOp _ t _ _ _ => match P.underlying t with
    | some (.pointer _) => true
    | _ => false
  | .call { callee := .builtin .len, argTypes, .. } => match argTypes.toList with
    | [t] => match P.underlying t with
      | some (.map _ _) => true
      | _ => false
    | _ => true
  | _ => false

/-- Does operation j wait for each of these, by an edge of its own? -/
def cov (ops : List Oper) (j : Nat) : List Nat → Bool
  | [] => true
  | i :: l => match ops[j]? with
    | some o => match o.after.toList.any (fun e => Region.binds .any e && Nat.beq e.on i) with
      | true => cov ops j l
      | false => false
    | none => false

/-- A region whose order is drawn: readings first, under a condition S that stands while those of 'held' may yet come. -/
def vcDraw (P : Program) (E : List (Nat × TypeId)) (ops : List Oper) : (World → Prop) → List Nat → Nat → Array Bool → Env → World → (Env → World → Prop) → Prop
  | _, _, 0, listed, ρ, w, K => match Region.ready .any ops.toArray listed with
    | [] => K ρ w
    | _ => False
  | S, held, n + 1, listed, ρ, w, K => match Region.ready .any ops.toArray listed with
    | [] => K ρ w
    | rs => match firstRd P ops rs with
      | some i => match ops[i]?, Region.free .any ops.toArray listed i, rs.contains i with
        | some o, true, true => guardK ops o.guard ρ
            (fun ρ => match heldRd P o.op with
              | true => rdOp P E (AtS P S) ρ o.op o.type fun v => vcDraw P E ops S (i :: held) n (listed.setIfInBounds i true) (updO ρ o.dst v) w K
              | false => rdOp P E (AtS P fun _ => True) ρ o.op o.type fun v => vcDraw P E ops S held n (listed.setIfInBounds i true) (updO ρ o.dst v) w K)
            (fun ρ => vcDraw P E ops S held n (listed.setIfInBounds i true) (updO ρ o.dst undef) w K)
        | _, _, _ => False
      | none => conjL (fun i => match ops[i]? with
        | some o => guardK ops o.guard ρ
            (fun ρ => efOp P ρ o.op o.type w fun v w' => match cov ops i held with
              | true => ∃ S' : World → Prop, S' w' ∧ vcDraw P E ops S' [] n (listed.setIfInBounds i true) (updO ρ o.dst v) w' K
              | false => ∃ S' : World → Prop, (∀ w, S' w → S w) ∧ S' w' ∧ vcDraw P E ops S' held n (listed.setIfInBounds i true) (updO ρ o.dst v) w' K)
            (fun ρ => vcDraw P E ops S held n (listed.setIfInBounds i true) (updO ρ o.dst undef) w K)
        | none => False) rs

structure Post where
  nrm : Env → World → Prop
  ret : Env → World → Prop
  exit : Nat → Env → World → Prop

/-- The temporaries that a code writes. -/
def writes : Code → List Nat
  | .seq a b => writes a ++ writes b
  | .cond _ a b => writes a ++ writes b
  | .block _ c | .loop c | .scope c => writes c
  | .region _ ops _ => ops.toList.filterMap (·.dst)
  | _ => []

def memN (l : List Nat) (i : Nat) : Bool := match l with
  | [] => false
  | x :: l => match Nat.beq i x with
    | true => true
    | false => memN l i

/-- What is written out of one, all else out of the other. -/
def mix (ws : List Nat) (g ρ : Env) : Env := fun i => match memN ws i with
  | true => g i
  | false => ρ i

/-- What kind of value a loop's temporary holds at its head. -/
inductive Kd where
  | int (k : IntKind) | bool | str | ptr | slice | map | val | adr

def Kd.T : Kd → Type
  | .int _ => Int
  | .bool => Bool
  | .str => ByteArray
  | .ptr => Option Addr
  | .slice => SV
  | .map => Option Nat
  | .val => Value
  | .adr => Addr

def Kd.toV : (k : Kd) → k.T → Value
  | .int k, n => .int k n
  | .bool, b => .bool b
  | .str, s => .string s
  | .ptr, p => .pointer p
  | .slice, s => .slice (SV.a s) (SV.len s) (SV.cap s)
  | .map, r => .map r
  | .val, v => v
  | .adr, a => .pointer (some a)

def getV : (k : Kd) → Value → (k.T → Prop) → Prop
  | .int k, .int k' n, F => kEq k k' (F n)
  | .bool, .bool b, F => F b
  | .str, .string s, F => F s
  | .ptr, .pointer p, F => F p
  | .slice, .slice a l c, F => F (SV.mk a l c)
  | .map, .map r, F => F r
  | .val, v, F => F v
  | .adr, .pointer p, F => optK p F
  | _, _, _ => False

def Slots (l : List (Nat × Kd)) : Type := match l with
  | [] => Unit
  | x :: l => x.2.T × Slots l

def getK : (l : List (Nat × Kd)) → Env → (Slots l → Prop) → Prop
  | [], _, F => F ()
  | x :: l, ρ, F => getV x.2 (ρ x.1) fun v => getK l ρ fun s => F (v, s)

def putK : (l : List (Nat × Kd)) → Slots l → Env → Env
  | [], _, ρ => ρ
  | x :: l, s, ρ => upd (putK l s.2 ρ) x.1 (x.2.toV s.1)

/-- A loop over a state: an invariant with a number that each round lowers. -/
def LoopT {σ : Type} (step : σ → World → (σ → World → Prop) → Prop) (s : σ) (w : World) : Prop :=
  ∃ (I : Nat → σ → World → Prop) (n : Nat), I n s w ∧ ∀ n s w', I n s w' → step s w' fun s' w'' => ∃ n', n' < n ∧ I n' s' w''

def VLoop (l : List (Nat × Kd)) (ws : List Nat) (step : Env → World → (Env → World → Prop) → Prop) (ρ : Env) (w : World) : Prop :=
  getK l ρ fun s => LoopT (fun s w K => ∀ g : Env, step (mix ws (putK l s g) ρ) w fun ρ'' w'' => getK l ρ'' fun s' => K s' w'') s w

/-- The number of a code's first region: a loop's name. -/
def firstRegion : Code → Option Nat
  | .region id _ _ => some id
  | .seq a b | .cond _ a b => match firstRegion a with
    | some n => some n
    | none => firstRegion b
  | .block _ c | .loop c | .scope c => firstRegion c
  | _ => none

abbrev Ann := List (Nat × List (Nat × Kd))

def annOf (ann : Ann) (n : Option Nat) : List (Nat × Kd) := match ann with
  | [] => []
  | x :: l => match n with
    | some n => match Nat.beq n x.1 with
      | true => x.2
      | false => annOf l n
    | none => []

/-- The marks of ranges over functions, behind the temporaries. -/
def markOf : Value → Deferred
  | .int _ n => { target := .collected n.toNat, args := #[] }
  | _ => { target := .nil, args := #[] }
def dsOf : Value → List Deferred
  | .tuple vs => vs.toList.map markOf
  | _ => []
def mark (v : Value) (D : Nat) : Value := match v with
  | .tuple vs => .tuple ⟨.int .i64 (D : Int) :: vs.toList⟩
  | _ => .tuple #[.int .i64 (D : Int)]

/-- A frame that shows these values. -/
structure Shows (N : Nat) (a : Act) (ρ : Env) : Prop where
  size : a.tmps.size = N
  get : ∀ i, i < N → a.tmps.getD i undef = ρ i
  defers : a.defers = dsOf (ρ N)

/-! ### Ranges over functions -/
/-- What a loop's record bears. -/
structure LB where
  fn : FuncId
  tmps : Array Value
  ps : Array Tmp
  assign : Code
  body : Code
def LB.loop (X : LB) (D : Nat) (st : LoopState) (pe : Option Code) : Obj := .loop { state := st, pending := pe, fn := X.fn, tmps := X.tmps, params := X.ps, assign := X.assign, body := X.body, defers := D }

/-- How a round may end. -/
structure RPost where
  nrm : World → Prop
  ret : World → Prop
  exit : Nat → World → Prop

def rPost (Q : RPost) : Exit → Act → World → Prop
  | .normal, _, w => Q.nrm w
  | .ret, _, w => Q.ret w
  | .exit id, _, w => Q.exit id w
  | _, _, _ => False

/-- A round on these arguments comes to this. -/
def LB.runs (P : Program) (X : LB) (l : Nat) (args : List Value) (w : World) (Q : RPost) : Prop :=
  args.length = X.ps.size ∧
  X.assign.wpIn (Fr (some l)) 0 P (Exit.then (fun a w1 => ∃ w2, (Instr.beginRound l).run P w1 = .ok () w2 ∧ X.body.wpIn (Fr (some l)) 0 P (rPost Q) a w2) (fun _ _ _ => False))
    { tmps := (X.ps.zip args.toArray).foldl (fun tmps (t, a) => tmps.setIfInBounds t a) X.tmps, defers := [] } w

def Enters (X : LB) (l D : Nat) (w w1 : World) : Prop := w1 = (w.alloc (.deferred (some []))).alloc (X.loop D .ready none) ∧ D = w.heap.size ∧ l = w.heap.size + 1

def allLeaf (d : TypeDesc) (K : Value → Prop) : Prop := match d with
  | .bool => ∀ b, K (.bool b)
  | .int k => ∀ n, K (.int k n)
  | .string => ∀ s, K (.string s)
  | .pointer _ => ∀ a, K (.pointer a)
  | .slice _ => ∀ s : SV, K (.slice s.a s.len s.cap)
  | .map _ _ => ∀ r, K (.map r)
  | .func _ _ _ => ∀ x : FV, K (.func x.f x.a x.b)
  | _ => ∀ v, K v

mutual
def allCells (P : Program) : Nat → TypeId → (List Value → Prop) → Prop
  | 0, _, _ => True
  | n + 1, t, K => match P.underlying t with
    | some (.struct fs) => allFields P n fs.toList K
    | some (.array _ _) => ∀ cs : Array Value, K cs.toList
    | some d => allLeaf d fun v => K [v]
    | none => True
def allFields (P : Program) : Nat → List Field → (List Value → Prop) → Prop
  | 0, _, _ => True
  | _ + 1, [], K => K []
  | n + 1, f :: fs, K => allCells P n f.type fun a => allFields P n fs fun b => K (a ++ b)
end

def allTy (P : Program) (t : TypeId) (K : Value → Prop) : Prop := match P.underlying t with
  | some (.struct fs) => allFields P 40 fs.toList fun l => K (.agg l.toArray)
  | some (.array _ _) => ∀ cs : Array Value, K (.agg cs)
  | some d => allLeaf d K
  | none => True

theorem allLeaf_of {d : TypeDesc} {K : Value → Prop} (h : ∀ v, K v) : allLeaf d K := by
  unfold allLeaf
  split <;> intros <;> exact h _

mutual
theorem allCells_of {P : Program} : ∀ (n : Nat) (t : TypeId) (K : List Value → Prop), (∀ l, K l) → allCells P n t K
  | 0, _, _, _ => by simp [allCells]
  | n + 1, t, K, h => by
    unfold allCells
    split
    · exact allFields_of n _ K h
    · intro cs; exact h _
    · exact allLeaf_of fun v => h _
    · trivial
theorem allFields_of {P : Program} : ∀ (n : Nat) (fs : List Field) (K : List Value → Prop), (∀ l, K l) → allFields P n fs K
  | 0, _, _, _ => by simp [allFields]
  | _ + 1, [], K, h => by simp only [allFields]; exact h _
  | n + 1, f :: fs, K, h => by
    simp only [allFields]
    exact allCells_of n f.type _ fun a => allFields_of n fs _ fun b => h _
end

theorem allTy_of {P : Program} {t : TypeId} {K : Value → Prop} (h : ∀ v, K v) : allTy P t K := by
  unfold allTy
  split
  · exact allFields_of _ _ _ fun l => h _
  · intro cs; exact h _
  · exact allLeaf_of h
  · trivial

/-- The temporaries' types: what a loop's variables may be. -/
def allArgs (P : Program) (E : List (Nat × TypeId)) : List Nat → Env → (List Value → Env → Prop) → Prop
  | [], ρ, K => K [] ρ
  | p :: ps, ρ, K => match lookN E p with
    | some t => allTy P t fun v => allArgs P E ps (upd ρ p v) fun l ρ => K (v :: l) ρ
    | none => True

/-- The function that was ranged over has returned. -/
def leaveV (P : Program) (X : LB) (l D : Nat) (Qn Qr : World → Prop) (Qx : Nat → World → Prop) (w : World) : Prop :=
  ∃ st pe, w.heap[l]? = some (X.loop D st pe) ∧ st ≠ .busy ∧ (match pe with
    | none => Qn (w.putObj l (X.loop D .exhausted pe))
    | some .ret => Qr (w.putObj l (X.loop D .exhausted pe))
    | some (.exit id) => Qx id (w.putObj l (X.loop D .exhausted pe))
    | _ => False)

def rangeV (P : Program) (v : Value) (w : World) (H : LB → Nat → Prop) (Qn Qr : Nat → World → Prop) (Qx : Nat → Nat → World → Prop) : Prop := match v with
  | .func (.func gf) first lb => plainFunc P gf = true ∧ ∀ (X : LB) (l D : Nat) (w1 : World), Enters X l D w w1 → H X l →
      Calls P gf (first.toList ++ [Value.func (.yield l) #[] #[]] ++ lb.toList).toArray w1 fun e w3 => (∃ v, e = .returned v) ∧ leaveV P X l D (Qn D) (Qr D) (Qx D) w3
  | _ => False

/-- Does a code leave for outside? -/
def exitsOut : List Nat → Code → Bool
  | bs, .exit id => !memN bs id
  | bs, .block id c => exitsOut (id :: bs) c
  | bs, .seq a b => exitsOut bs a || exitsOut bs b
  | bs, .cond _ a b => exitsOut bs a || exitsOut bs b
  | bs, .loop c => exitsOut bs c
  | bs, .scope c => exitsOut bs c
  | bs, .rangeFunc _ _ a b => exitsOut bs a || exitsOut bs b
  | _, _ => false

/-- A block for deferred calls is empty, and is shut. -/
def shutV (D : Nat) (w : World) (K : World → Prop) : Prop := w.heap[D]? = some (.deferred (some [])) ∧ K (w.putObj D (.deferred none))

def postOf (N : Nat) (Q : Post) : Exit → Act → World → Prop
  | .normal, a, w => ∃ ρ, Shows N a ρ ∧ Q.nrm ρ w
  | .ret, a, w => ∃ ρ, Shows N a ρ ∧ Q.ret ρ w
  | .exit id, a, w => ∃ ρ, Shows N a ρ ∧ Q.exit id ρ w
  | _, _, _ => False

def vc (P : Program) (E : List (Nat × TypeId)) (N : Nat) (ann : Ann) : Code → Post → Env → World → Prop
  | .skip, Q, ρ, w => Q.nrm ρ w
  | .seq a b, Q, ρ, w => vc P E N ann a ⟨fun ρ w => vc P E N ann b Q ρ w, Q.ret, Q.exit⟩ ρ w
  | .cond c a b, Q, ρ, w => match ev ρ c with
    | .bool t => brc t (vc P E N ann a Q ρ w) (vc P E N ann b Q ρ w)
    | _ => False
  | .block id c, Q, ρ, w => vc P E N ann c ⟨Q.nrm, Q.ret, fun i ρ w => match Nat.beq i id with
    | true => Q.nrm ρ w
    | false => Q.exit i ρ w⟩ ρ w
  | .exit id, Q, ρ, w => Q.exit id ρ w
  | .ret, Q, ρ, w => Q.ret ρ w
  | .label _, Q, ρ, w => Q.nrm ρ w
  | .loop c, Q, ρ, w => VLoop (annOf ann (firstRegion c)) (writes c) (fun ρ w K => vc P E N ann c ⟨K, Q.ret, Q.exit⟩ ρ w) ρ w
  | .region _ ops false, Q, ρ, w => vcOps P E ops.toList ops.toList ρ w Q.nrm
  | .region _ ops true, Q, ρ, w => ∃ S : World → Prop, S { w with drawn := w.drawn + 1 } ∧ vcDraw P E ops.toList S [] ops.toList.length (Array.replicate ops.toList.length false) ρ { w with drawn := w.drawn + 1 } Q.nrm
  | .rangeFunc f ps as b, Q, ρ, w => rangeV P (ev ρ f) w
      (fun X l => allArgs P E ps.toList (upd ρ N undef) fun args ρ' => ∀ (w : World) (R : RPost), vc P E N ann as ⟨fun ρ w1 => ∃ w2, (Instr.beginRound l).run P w1 = .ok () w2 ∧ vc P E N ann b ⟨fun _ w => R.nrm w, fun _ w => R.ret w, fun i _ w => R.exit i w⟩ ρ w2, fun _ _ => False, fun _ _ _ => False⟩ ρ' w → X.runs P l args w R)
      (fun D w => Q.nrm (upd ρ N (mark (ρ N) D)) w) (fun D w => Q.ret (upd ρ N (mark (ρ N) D)) w) (match exitsOut [] b with
        | true => fun D i w => Q.exit i (upd ρ N (mark (ρ N) D)) w
        | false => fun _ _ _ => False)
  | _, _, _, _ => False

end Go.Proofs.Ytonjaaljnjjjcaa
