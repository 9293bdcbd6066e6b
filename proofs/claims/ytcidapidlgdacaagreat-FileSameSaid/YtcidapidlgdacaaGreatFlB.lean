/- The facts logic, part B: symbolic values, states, and what light operations (those that leave memory alone) yield. -/
import Derived.Test.YtcidapidlgdacaaGreatFlA
import Derived.Laws.Slices
set_option linter.unusedVariables false
set_option linter.unusedSimpArgs false
namespace Go.FL

/-- Symbolic values: a value; a pointer into a private block; a private row as a slice; a pointer to a part of element i of a slice; a pointer moved on; a value under a guard. -/
inductive SV where
  | val (v : Value)
  | loc (k off : Nat)
  | lsl (k n : Nat)
  | elt (v : Value) (i : Int) (sz off : Nat)
  | ptr (v : Value) (off : Nat)
  | gd (b : Bool) (s : SV)

def eltAddr (v : Value) (i : Int) (sz off : Nat) : Option Addr :=
  match v with
  | .slice (some a) _ _ => some ⟨a.block, a.off + (i.toNat * sz + off), none⟩
  | _ => none
def ptrAddr (v : Value) (off : Nat) : Option Addr :=
  match v with
  | .pointer (some a) => some ⟨a.block, a.off + off, none⟩
  | _ => none
def SV.conc (lam : Nat → Nat) : SV → Value
  | .val v => v
  | .loc k off => .pointer (some ⟨lam k, off, none⟩)
  | .lsl k n => .slice (some ⟨lam k, 0, none⟩) n n
  | .elt v i sz off => .pointer (eltAddr v i sz off)
  | .ptr v off => .pointer (ptrAddr v off)
  | .gd b s => if b then s.conc lam else undef
def SV.grd : SV → Bool
  | .gd b s => b && s.grd
  | _ => true
def SV.str : SV → SV
  | .gd _ s => s.str
  | s => s
def SV.ok (n : Nat) : SV → Prop
  | .loc k _ => k < n
  | .lsl k _ => k < n
  | .gd _ s => s.ok n
  | _ => True
theorem SV.ok_str {n : Nat} : ∀ {s : SV}, s.ok n → s.str.ok n
  | .val _, h => h
  | .loc _ _, h => h
  | .lsl _ _, h => h
  | .elt _ _ _ _, h => h
  | .ptr _ _, h => h
  | .gd _ s, h => SV.ok_str (s := s) h
theorem SV.ok_mono {n n' : Nat} (hn : n ≤ n') : ∀ {s : SV}, s.ok n → s.ok n'
  | .val _, h => h
  | .loc _ _, h => Nat.lt_of_lt_of_le h hn
  | .lsl _ _, h => Nat.lt_of_lt_of_le h hn
  | .elt _ _ _ _, h => h
  | .ptr _ _, h => h
  | .gd _ s, h => SV.ok_mono (s := s) hn h
theorem SV.conc_congr {n : Nat} {lam lam' : Nat → Nat} (hl : ∀ k, k < n → lam' k = lam k) : ∀ {s : SV}, s.ok n → s.conc lam' = s.conc lam
  | .val _, _ => rfl
  | .loc k _, h => by simp only [SV.conc, hl k h]
  | .lsl k _, h => by simp only [SV.conc, hl k h]
  | .elt _ _ _ _, _ => rfl
  | .ptr _ _, _ => rfl
  | .gd b s, h => by simp only [SV.conc, SV.conc_congr hl (s := s) h]
theorem SV.conc_str {lam : Nat → Nat} : ∀ {s : SV}, s.grd = true → s.conc lam = s.str.conc lam
  | .val _, _ => rfl
  | .loc _ _, _ => rfl
  | .lsl _ _, _ => rfl
  | .elt _ _ _ _, _ => rfl
  | .ptr _ _, _ => rfl
  | .gd b s, h => by
    simp only [SV.grd, Bool.and_eq_true] at h
    simp only [SV.conc, SV.str, h.1, if_true]
    exact SV.conc_str h.2

/-- The state: what temporaries hold; the private blocks; the facts. -/
structure St where
  E : List (Nat × SV)
  L : List (Option (TypeId × List Value))
  m : Mem
def St.al (s : St) (k : Nat) : Prop := ∃ x, s.L[k]? = some (some x)
def look : List (Nat × SV) → Nat → Option SV
  | [], _ => none
  | (t, v) :: r, u => if t = u then some v else look r u
def St.put (s : St) (d : Option Tmp) (v : SV) : St :=
  match d with
  | some d => ⟨(d, v) :: s.E, s.L, s.m⟩
  | none => s

structure Inv (w0 : World) (m0 : Mem) (N : Nat) (a : Act) (w : World) (s : St) (lam : Nat → Nat) : Prop where
  defers : a.defers = []
  size : a.tmps.size = N
  env : ∀ t sv, look s.E t = some sv → a.tmps.getD t undef = sv.conc lam
  ok : ∀ t sv, look s.E t = some sv → sv.ok s.L.length
  loc : ∀ k T cs, s.L[k]? = some (some (T, cs)) → w.heap[lam k]? = some (.cells cs.toArray T (0, 0))
  inj : ∀ j k, s.al j → s.al k → lam j = lam k → j = k
  sep : ∀ k, s.al k → s.m.fresh (lam k)
  old : ∀ k, s.al k → w0.heap.size ≤ lam k
  sat : Sat w s.m
  frm : Frm m0 s.m w0 w

/-- what reading asks of the state -/
structure Rd (a : Act) (w : World) (s : St) (lam : Nat → Nat) : Prop where
  env : ∀ t sv, look s.E t = some sv → a.tmps.getD t undef = sv.conc lam
  loc : ∀ k T cs, s.L[k]? = some (some (T, cs)) → w.heap[lam k]? = some (.cells cs.toArray T (0, 0))
  sat : Sat w s.m
theorem Inv.rd {w0 : World} {m0 : Mem} {N : Nat} {a : Act} {w : World} {s : St} {lam : Nat → Nat} (h : Inv w0 m0 N a w s lam) : Rd a w s lam := ⟨h.env, h.loc, h.sat⟩
/-! ### the tables -/
def isAggD : TypeDesc → Bool
  | .struct _ | .array _ _ => true
  | _ => false
def tinfo (P : Program) (T : TypeId) : Option (Nat × Bool) :=
  match P.info? T, P.underlying T with
  | some i, some d => some (i.size, isAggD d)
  | _, _ => none
def tfield (P : Program) (S f : Nat) : Option (Nat × Nat) :=
  match P.underlying S with
  | some (.struct fs) => match fs[f]? with
    | some x => match P.info? x.type with
      | some i => some (x.offset, i.size)
      | none => none
    | none => none
  | _ => none
def tfields (P : Program) (S : TypeId) : Option (List (Nat × Nat)) :=
  match P.underlying S with
  | some (.struct fs) => fs.toList.mapM fun f => (P.info? f.type).map fun i => (f.offset, i.size)
  | _ => none
def tftype (P : Program) (S f : Nat) : Option (Nat × Nat × Bool) :=
  match P.underlying S with
  | some (.struct fs) => match fs[f]? with
    | some x => (tinfo P x.type).map fun i => (x.offset, i.1, i.2)
    | none => none
  | _ => none
def telem (P : Program) (T : TypeId) : Option (TypeId × Nat × Nat) :=
  match P.underlying T with
  | some (.slice e) => (P.info? e).map fun i => (e, i.size, i.bytes)
  | _ => none
def tarr (P : Program) (T : TypeId) : Option (Nat × TypeId × Nat) :=
  match P.underlying T with
  | some (.array n e) => (P.info? e).map fun i => (n, e, i.size)
  | _ => none
def tint (P : Program) (T : TypeId) : Option IntKind :=
  match P.underlying T with
  | some (.int k) => some k
  | _ => none
def tstr (P : Program) (T : TypeId) : Bool :=
  match P.underlying T with
  | some .string => true
  | _ => false
def tslice (P : Program) (T : TypeId) : Bool :=
  match P.underlying T with
  | some (.slice _) => true
  | _ => false
def tptr (P : Program) (T : TypeId) : Bool :=
  match P.underlying T with
  | some (.pointer _) => true
  | _ => false
def tzero (P : Program) (T : TypeId) : Option (List Value) := ((P.info? T).bind (·.zero)).map (·.cells.toList)
/-- scalar types: 0 numbers, 1 bools, 2 strings -/
def tscal (P : Program) (T : TypeId) : Option Nat :=
  match P.underlying T with
  | some (.int _) => some 0
  | some .bool => some 1
  | some .string => some 2
  | _ => none
/-- a struct of scalars: where they lie, and what they are -/
def teq (P : Program) (T : TypeId) : Option (List (Nat × Nat)) :=
  match P.underlying T with
  | some (.struct fs) => if P.stoodInHeld T || P.eqGuardType P.depth T then none else
    fs.toList.mapM fun f => if f.name == "_" then none else match tinfo P f.type, tscal P f.type with
      | some (1, false), some c => some (f.offset, c)
      | _, _ => none
  | _ => none
/-- a slice of bytes -/
def tbytes (P : Program) (T : TypeId) : Bool :=
  match P.underlying T with
  | some (.slice e) => match P.underlying e with
    | some (.int .u8) => true
    | _ => false
  | _ => false

/-! ### operands -/
def opr (E : List (Nat × SV)) : Operand → Option SV
  | .tmp t => look E t
  | .const v => some (.val v)
  | .func f => some (.val (.func (.func f) #[] #[]))
  | .global _ => none
theorem opr_ok {a : Act} {w : World} {s : St} {lam : Nat → Nat} (h : Rd a w s lam) {x : Operand} {sv : SV} (hx : opr s.E x = some sv) : a.eval x = sv.conc lam := by
  cases x with
  | tmp t => exact h.env t sv hx
  | const v => simp only [opr, Option.some.injEq] at hx; subst hx; rfl
  | global g => cases hx
  | func f => simp only [opr, Option.some.injEq] at hx; subst hx; rfl
/-- one operand, taken out of its guard -/
def o1 (E : List (Nat × SV)) (x : Operand) (k : SV → Option (Prop × SV)) : Option (Prop × SV) :=
  match opr E x with
  | some sv => (k sv.str).map fun r => (sv.grd = true ∧ r.1, r.2)
  | none => none
def ov (E : List (Nat × SV)) (x : Operand) (k : Value → Option (Prop × SV)) : Option (Prop × SV) :=
  o1 E x fun | .val v => k v | _ => none

/-! ### values -/
def pickV (c : Bool) (a b : Value) : Value :=
  match a, b with
  | .bool x, .bool y => .bool (bif c then x else y)
  | a, b => if c then a else b
theorem pickV_eq (c : Bool) (a b : Value) : pickV c a b = if c then a else b := by
  cases c <;> cases a <;> cases b <;> rfl
def binV (op : BinOp) (x y : Value) : Option (Prop × Value) :=
  match x, y with
  | .int k a, .int k' b =>
    match op with
    | .add => some (k = k', .int k (k.wrap (a + b)))
    | .sub => some (k = k', .int k (k.wrap (a - b)))
    | .mul => some (k = k', .int k (k.wrap (a * b)))
    | .quo => some (k = k' ∧ b ≠ 0, .int k (k.wrap (a.tdiv b)))
    | .rem => some (k = k' ∧ b ≠ 0, .int k (a.tmod b))
    | .eql => some (k = k', .bool (a == b))
    | .neq => some (k = k', .bool (a != b))
    | .lss => some (k = k', .bool (decide (a < b)))
    | .leq => some (k = k', .bool (decide (a ≤ b)))
    | .gtr => some (k = k', .bool (decide (a > b)))
    | .geq => some (k = k', .bool (decide (a ≥ b)))
    | .and => some (k = k', .int k (k.wrap (BitVec.ofInt k.bits a &&& BitVec.ofInt k.bits b).toNat))
    | .or => some (k = k', .int k (k.wrap (BitVec.ofInt k.bits a ||| BitVec.ofInt k.bits b).toNat))
    | .xor => some (k = k', .int k (k.wrap (BitVec.ofInt k.bits a ^^^ BitVec.ofInt k.bits b).toNat))
    | .andNot => some (k = k', .int k (k.wrap (BitVec.ofInt k.bits a &&& ~~~BitVec.ofInt k.bits b).toNat))
    | .shl => some (0 ≤ b, .int k (k.wrap (a * 2 ^ (min b.toNat k.bits))))
    | .shr => some (0 ≤ b, .int k (a.fdiv (2 ^ (min b.toNat k.bits))))
  | .string a, .string b =>
    match op with
    | .eql => some (True, .bool (a.toList == b.toList))
    | .neq => some (True, .bool (!(a.toList == b.toList)))
    | _ => none
  | _, _ => none
theorem binV_ok {P : Program} {op : BinOp} {T : TypeId} {x y : Value} {p : Prop} {v : Value} (h : binV op x y = some (p, v)) (hp : p) (w : World) : (binOp op T x y).run P w = .ok v w := by
  unfold binV at h
  split at h
  · rename_i k a k' b
    split at h <;> cases h
    all_goals first
      | (subst hp; simp [binOp, Op.intArith, Op.intCmp, Op.intBits]; done)
      | (obtain ⟨rfl, hb⟩ := hp; simp [binOp, Op.intDiv, hb]; done)
      | (have hn : ¬ b < 0 := by omega
         simp [binOp, Op.shift, hn]; done)
  · split at h <;> cases h
    · simp [binOp, Op.stringOp]
    · simp [binOp, Op.stringOp]
  · cases h
/-- '==' of two values whose cells are numbers, bools and strings -/
def unV (op : UnOp) (x : Value) : Option Value :=
  match op, x with
  | .not, .bool b => some (.bool (!b))
  | .neg, .int k n => some (.int k (k.wrap (0 - n)))
  | .xor, .int k n => some (.int k (k.wrap (BitVec.ofInt k.bits (if k.signed then -1 else k.max) ^^^ BitVec.ofInt k.bits n).toNat))
  | _, _ => none
theorem unV_ok {P : Program} {op : UnOp} {x v : Value} (h : unV op x = some v) (w : World) : (Op.unary op x).run P w = .ok v w := by
  unfold unV at h
  split at h <;> cases h
  · simp [Op.unary]
  · simp [Op.unary, Op.intArith]
  · simp [Op.unary, Op.intBits]
def lenV : Value → Option Nat
  | .slice _ n _ => some n
  | _ => none
def lenS : Value → Option Nat
  | .string s => some s.size
  | _ => none
def capV : Value → Option Nat
  | .slice _ _ c => some c
  | _ => none
/-- s[l:h] -/
def subV (v : Value) (l h : Int) (sz : Nat) : Value :=
  match v with
  | .slice a _ c => .slice (if c = l.toNat then a else a.map (·.add (l.toNat * sz))) (h.toNat - l.toNat) (c - l.toNat)
  | v => v
/-- '==' of two scalars -/
def eqS : Nat → Value → Value → Option (Prop × Bool)
  | 0, .int k a, .int k' b => some (k = k', a == b)
  | 1, .bool a, .bool b => some (True, a == b)
  | 2, .string a, .string b => some (True, a.toList == b.toList)
  | _, _, _ => none
def eqL (xs ys : List Value) : List (Nat × Nat) → Option (Prop × Bool)
  | [] => some (True, true)
  | (o, c) :: r => match xs[o]?, ys[o]? with
    | some x, some y => match eqS c x y with
      | some q => (eqL xs ys r).map fun t => (q.1 ∧ t.1, q.2 && t.2)
      | none => none
    | _, _ => none
def neqB (op : BinOp) (b : Bool) : Option Value :=
  match op with
  | .eql => some (.bool b)
  | .neq => some (.bool (!b))
  | _ => none
def eqV (P : Program) (op : BinOp) (T : TypeId) (x y : Value) : Option (Prop × Value) :=
  match x, y with
  | .bool a, .bool b => match tscal P T with
    | some 1 => (neqB op (a == b)).map fun v => (True, v)
    | _ => none
  | .agg xs, .agg ys => match teq P T with
    | some l => match eqL xs.toList ys.toList l with
      | some q => (neqB op q.2).map fun v => (q.1, v)
      | none => none
    | none => none
  | _, _ => none

/-! ### reading -/
def Mem.rd (m : Mem) (b o n : Nat) : Option (List Value) := (List.range' o n).mapM fun j => m.cell b j
def u8s : List Value → Option (List UInt8)
  | [] => some []
  | .int .u8 n :: r => (u8s r).map (UInt8.ofNat n.toNat :: ·)
  | _ => none
/-- the string of a slice of bytes -/
def strV (m : Mem) (v : Value) : Option Value :=
  match v with
  | .slice none _ _ => some (.string .empty)
  | .slice (some a) n _ => if n = 0 ∨ a.spot = none then match m.rd a.block a.off n with
      | some cs => (u8s cs).map fun l => .string ⟨l.toArray⟩
      | none => none
    else none
  | _ => none
def rdA (m : Mem) (a : Option Addr) (n : Nat) : Option (List Value) :=
  match a with
  | some a => m.rd a.block a.off n
  | none => none
def rdLoc (L : List (Option (TypeId × List Value))) (k off n : Nat) : Option (List Value) :=
  match L[k]? with
  | some (some (_, cs)) => if off + n ≤ cs.length then some ((cs.drop off).take n) else none
  | _ => none
def rdSV (s : St) (p : SV) (n : Nat) : Option (List Value) :=
  match p with
  | .loc k off => rdLoc s.L k off n
  | .elt v i sz off => rdA s.m (eltAddr v i sz off) n
  | .ptr v off => rdA s.m (ptrAddr v off) n
  | .val v => rdA s.m (ptrAddr v 0) n
  | _ => none
def mkVal (ag : Bool) (cs : List Value) : Option Value :=
  if ag then some (.agg cs.toArray) else
    match cs with
    | [v] => some v
    | _ => none

end Go.FL
