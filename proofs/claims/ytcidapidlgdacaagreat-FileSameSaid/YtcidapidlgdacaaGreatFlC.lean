/- The facts logic, part C: the light operations and why they yield what is said. -/
import Derived.Test.YtcidapidlgdacaaGreatFlB
set_option linter.unusedVariables false
set_option linter.unusedSimpArgs false
namespace Go.FL

def notNil (v : Value) : Prop :=
  match v with
  | .pointer none | .nilIface | .nilFunc => False
  | .func (.method _) _ _ => False
  | _ => True
def plainPtr (v : Value) : Prop := ∃ b o, v = .pointer (some ⟨b, o, none⟩)
def plainSl (v : Value) : Prop := ∀ a n c, v = .slice (some a) n c → 0 < n → a.spot = none
def goodVal (sv : SV) : Prop := match sv with | .val v => plainPtr v | _ => True
def isPtrSV : SV → Bool
  | .loc _ _ => true
  | .elt _ _ _ _ => true
  | .ptr _ _ => true
  | _ => false
def hasAddr : SV → Prop
  | .loc _ _ => True
  | .elt v i sz off => (eltAddr v i sz off).isSome = true
  | .ptr v off => (ptrAddr v off).isSome = true
  | _ => False
def moveSV (p : SV) (n : Nat) : Option SV :=
  match p with
  | .loc k o => some (.loc k (o + n))
  | .elt v i sz o => some (.elt v i sz (o + n))
  | .ptr v o => some (.ptr v (o + n))
  | .val v => some (.ptr v n)
  | _ => none
def movable : SV → Prop
  | .loc _ _ => True
  | .elt v i sz off => (eltAddr v i sz off).isSome = true
  | .ptr v off => (ptrAddr v off).isSome = true
  | .val v => plainPtr v
  | _ => False
theorem moveSV_ok {p q : SV} {n : Nat} (lam : Nat → Nat) (h : moveSV p n = some q) (hm : movable p) : ∃ a : Addr, p.conc lam = .pointer (some a) ∧ q.conc lam = .pointer (some (a.add n)) := by
  cases p with
  | loc k o =>
    cases h; refine ⟨_, rfl, ?_⟩
    simp only [SV.conc, Addr.add]; split <;> simp_all
  | elt v i sz o =>
    cases h
    simp only [movable] at hm
    obtain ⟨a, ha⟩ := Option.isSome_iff_exists.1 hm
    unfold eltAddr at ha
    split at ha
    · rename_i a' _ _
      cases ha
      refine ⟨_, by simp only [SV.conc, eltAddr]; rfl, ?_⟩
      simp only [SV.conc, eltAddr, Addr.add]
      split <;> simp_all [Nat.add_assoc]
    · cases ha
  | ptr v o =>
    cases h
    simp only [movable] at hm
    obtain ⟨a, ha⟩ := Option.isSome_iff_exists.1 hm
    unfold ptrAddr at ha
    split at ha
    · cases ha
      refine ⟨_, by simp only [SV.conc, ptrAddr]; rfl, ?_⟩
      simp only [SV.conc, ptrAddr, Addr.add]
      split <;> simp_all [Nat.add_assoc]
    · cases ha
  | val v =>
    cases h
    obtain ⟨b, o, rfl⟩ := hm
    refine ⟨_, rfl, ?_⟩
    simp only [SV.conc, ptrAddr, Addr.add]
    split <;> simp_all
  | lsl k n => cases h
  | gd b s => cases h

def idxSV (x : SV) (j : Int) (sz : Nat) : Option (Prop × SV) :=
  match x with
  | .lsl k n => some (0 ≤ j ∧ j < n, .loc k (j.toNat * sz))
  | .val v => match lenV v with
    | some n => some ((0 ≤ j ∧ j < n) ∧ plainSl v ∧ (eltAddr v j sz 0).isSome = true, .elt v j sz 0)
    | none => none
  | _ => none

/-- the value that a list of operands holds -/
def vals (E : List (Nat × SV)) : List Operand → Option (Prop × List Value)
  | [] => some (True, [])
  | x :: r => match opr E x with
    | some sv => match sv.str with
      | .val v => (vals E r).map fun q => (sv.grd = true ∧ q.1, v :: q.2)
      | _ => none
    | none => none
theorem vals_ok {a : Act} {w : World} {s : St} {lam : Nat → Nat} (h : Rd a w s lam) : ∀ {l : List Operand} {p : Prop} {vs : List Value}, vals s.E l = some (p, vs) → p → l.map a.eval = vs
  | [], p, vs, hl, _ => by cases hl; rfl
  | x :: r, p, vs, hl, hp => by
    simp only [vals] at hl
    split at hl
    · rename_i sv hx
      split at hl
      · rename_i v hs
        cases hq : vals s.E r with
        | none => rw [hq] at hl; cases hl
        | some q =>
          rw [hq] at hl; cases hl
          rw [List.map_cons, opr_ok h hx, SV.conc_str hp.1, hs, vals_ok h hq hp.2]; rfl
      · cases hl
    · cases hl

def overlay (cs : List Value) (off : Nat) (vs : List Value) : List Value := cs.take off ++ vs ++ cs.drop (off + vs.length)
/-- the parts of a struct or array value, laid into its zero cells; place: offset and size -/
def fillL (place : Nat → Option (Nat × Nat)) : List Value → List (Nat × Value) → Option (List Value)
  | cs, [] => some cs
  | cs, (i, v) :: r => match place i with
    | some (off, sz) => if v.cells.toList.length = sz ∧ off + sz ≤ cs.length then fillL place (overlay cs off v.cells.toList) r else none
    | none => none
def buildV (P : Program) (T : TypeId) (parts : List (Nat × Value)) : Option Value :=
  match tzero P T with
  | some z => match tfields P T with
    | some fs => (fillL (fun i => fs[i]?) z parts).map fun cs => .agg cs.toArray
    | none => match tarr P T with
      | some (_, _, sz) => (fillL (fun j => some (j * sz, sz)) z parts).map fun cs => .agg cs.toArray
      | none => none
  | none => none

def minV (a b : Value) : Option Value :=
  match a, b with
  | .int k x, .int k' y => if k = k' then some (.int k (min x y)) else none
  | _, _ => none
def maxV (a b : Value) : Option Value :=
  match a, b with
  | .int k x, .int k' y => if k = k' then some (.int k (max x y)) else none
  | _, _ => none
def nilCmp (tp neq : Bool) (x y : SV) : Option (Prop × SV) :=
  if tp = true then match y with
  | .val (.pointer none) => if isPtrSV x then some (hasAddr x, .val (.bool neq)) else
      match x with
      | .val (.pointer none) => some (True, .val (.bool !neq))
      | .val v => some (plainPtr v, .val (.bool neq))
      | _ => none
  | _ => none else none

/-- a bound of s[l:h]; d where it is left out -/
def bnd (E : List (Nat × SV)) (x : Option Operand) (d : Int) (k : Int → Option (Prop × SV)) : Option (Prop × SV) :=
  match x with
  | none => k d
  | some o => ov E o fun | .int _ j => k j | _ => none
def sbyte (b : ByteArray) (j : Nat) : Int := ((b.data.toList.getD j 0).toNat : Int)

def lightS (P : Program) (s : St) : Op → Option (Prop × SV)
  | .move x => match opr s.E x with | some sv => some (True, sv) | none => none
  | .assign x => match opr s.E x with | some sv => some (True, sv) | none => none
  | .pick c a b => ov s.E c fun
    | .bool cb => match opr s.E a, opr s.E b with
      | some sa, some sb => match sa.str, sb.str with
        | .val va, .val vb => some ((cb = true → sa.grd = true) ∧ (cb = false → sb.grd = true), .val (pickV cb va vb))
        | _, _ => none
      | _, _ => none
    | _ => none
  | .binOp op T x y _ => o1 s.E x fun sx => o1 s.E y fun sy =>
      match sx, sy with
      | .val v, .val u => (match binV op v u with
        | some r => some (r.1, .val r.2)
        | none => match eqV P op T v u with
        | some r => some (r.1, .val r.2)
        | none => match op with
          | .eql => nilCmp (tptr P T) false sx sy
          | .neq => nilCmp (tptr P T) true sx sy
          | _ => none)
      | sx, sy => match op with
        | .eql => nilCmp (tptr P T) false sx sy
        | .neq => nilCmp (tptr P T) true sx sy
        | _ => none
  | .unOp op _ x => ov s.E x fun v => (unV op v).map fun r => (True, .val r)
  | .convert S T x => match (P.underlying S).isSome, tint P T with
    | true, some k => ov s.E x fun | .int _ n => some (True, .val (.int k (k.wrap n))) | _ => none
    | true, none => if tbytes P S && tstr P T then ov s.E x fun v => (strV s.m v).map fun r => (True, .val r) else none
    | _, _ => none
  | .slice T x lo hi none => match telem P T with
    | some (_, sz, _) => ov s.E x fun v => match lenV v, capV v with
      | some n, some c => bnd s.E lo 0 fun l => bnd s.E hi n fun h => some (0 ≤ l ∧ l ≤ h ∧ h ≤ c, .val (subV v l h sz))
      | _, _ => none
    | none => none
  | .extract x i => ov s.E x fun | .tuple vs => (vs[i]?).map fun v => (True, .val v) | _ => none
  | .nilCheck x => o1 s.E x fun sv => match sv with
    | .val v => some (notNil v, .val v)
    | sv => some (hasAddr sv, sv)
  | .fieldAddr S x f => match tfield P S f with
    | some (off, sz) => o1 s.E x fun sv => (moveSV sv off).map fun q => (sz ≠ 0 ∧ movable sv, q)
    | none => none
  | .indexAddr T x i => ov s.E i fun
    | .int _ j => match telem P T with
      | some (_, sz, _) => o1 s.E x fun sv => idxSV sv j sz
      | none => match tarr P T with
        | some (n, _, sz) => o1 s.E x fun sv => (moveSV sv (j.toNat * sz)).map fun q => ((0 ≤ j ∧ j < n) ∧ movable sv, q)
        | none => none
    | _ => none
  | .index T x i => ov s.E i fun
    | .int _ j => ov s.E x fun
      | .string b => if tstr P T then some (0 ≤ j ∧ j < b.size, .val (.int .u8 (sbyte b j.toNat))) else none
      | .agg cs => match tarr P T with
        | some (n, e, sz) => match tinfo P e with
          | some (sz', ag) => match mkVal ag ((cs.toList.drop (j.toNat * sz)).take sz') with
            | some v => some ((0 ≤ j ∧ j < n) ∧ j.toNat * sz + sz' ≤ cs.size, .val v)
            | none => none
          | none => none
        | none => none
      | _ => none
    | _ => none
  | .field T x f => match tftype P T f with
    | some (off, n, ag) => ov s.E x fun
      | .agg cs => match mkVal ag ((cs.toList.drop off).take n) with
        | some v => some (off + n ≤ cs.size, .val v)
        | none => none
      | _ => none
    | none => none
  | .load T x => match tinfo P T with
    | some (n, ag) => o1 s.E x fun sv => match rdSV s sv n with
      | some cs => (mkVal ag cs).map fun v => (goodVal sv, .val v)
      | none => none
    | none => none
  | .build T parts => match vals s.E (parts.toList.map (·.2)) with
    | some (p, vs) => (buildV P T ((parts.toList.map (·.1)).zip vs)).map fun v => (p, .val v)
    | none => none
  | .makeFunc fn first capt => match vals s.E first.toList, vals s.E capt.toList with
    | some (p, vs), some (q, us) => some (p ∧ q, .val (.func fn vs.toArray us.toArray))
    | _, _ => none
  | .call { callee := .builtin b, args, argTypes } => match b with
    | .len => match args.toList, argTypes.toList with
      | [x], [T] => if tslice P T then o1 s.E x fun
          | .val v => (lenV v).map fun (n : Nat) => (True, .val (.int .i64 (n : Int)))
          | .lsl _ n => some (True, .val (.int .i64 n))
          | _ => none else if tstr P T then ov s.E x fun v => (lenS v).map fun (n : Nat) => (True, .val (.int .i64 (n : Int))) else none
      | _, _ => none
    | .min => match args.toList with
      | [x, y] => ov s.E x fun v => ov s.E y fun u => (minV v u).map fun r => (True, .val r)
      | _ => none
    | .max => match args.toList with
      | [x, y] => ov s.E x fun v => ov s.E y fun u => (maxV v u).map fun r => (True, .val r)
      | _ => none
    | _ => none
  | _ => none
end Go.FL
