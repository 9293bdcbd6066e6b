/- The facts logic, part I: what simp is to run. (Continuations are named, never lambdas: simp must not run them before their time.) -/
import Derived.Test.YtcidapidlgdacaaGreatFlH
set_option linter.unusedVariables false
namespace Go.FL
section
variable {P : Program} {N : Nat} {K : Exit → St → Prop} {s : St}
def seqK (P : Program) (N : Nat) (y : Code) (K : Exit → St → Prop) : Exit → St → Prop
  | .normal, s => wpC P N y K s
  | e, s => K e s
def blkK (id : Nat) (K : Exit → St → Prop) : Exit → St → Prop
  | .exit j, s => if j = id then K .normal s else K (.exit j) s
  | e, s => K e s
def wpIf' (P : Program) (N : Nat) (b : Bool) (x y : Code) (K : Exit → St → Prop) (s : St) : Prop := (b = true → wpC P N x K s) ∧ (b = false → wpC P N y K s)
def condK (P : Program) (N : Nat) (c : Option SV) (x y : Code) (K : Exit → St → Prop) (s : St) : Prop :=
  match c with
  | some (.val (.bool b)) => wpIf' P N b x y K s
  | _ => False
@[go_sem] theorem wpC_skip : wpC P N .skip K s = K .normal s := rfl
@[go_sem] theorem wpC_label {l : Nat} : wpC P N (.label l) K s = K .normal s := rfl
@[go_sem] theorem wpC_region {id : Nat} {ops : Array Oper} : wpC P N (.region id ops false) K s = wpL P ops N ops.toList (K .normal) s := rfl
@[go_sem] theorem wpC_draw {id : Nat} {ops : Array Oper} : wpC P N (.region id ops true) K s = SemCode P N (.region id ops true) K s := rfl
@[go_sem] theorem wpC_seq {x y : Code} : wpC P N (.seq x y) K s = wpC P N x (seqK P N y K) s := by
  have : seqK P N y K = fun e s => match e with | .normal => wpC P N y K s | e => K e s := by
    funext e s; cases e <;> rfl
  rw [this]; rfl
@[go_sem] theorem wpC_cond {c : Operand} {x y : Code} : wpC P N (.cond c x y) K s = condK P N (opr s.E c) x y K s := rfl
@[go_sem] theorem condK_b {b : Bool} {x y : Code} : condK P N (some (.val (.bool b))) x y K s = wpIf' P N b x y K s := rfl
@[go_sem] theorem wpIf_true {x y : Code} : wpIf' P N true x y K s = wpC P N x K s := by simp [wpIf']
@[go_sem] theorem wpIf_false {x y : Code} : wpIf' P N false x y K s = wpC P N y K s := by simp [wpIf']
theorem wpIf_mk {b : Bool} {x y : Code} (h1 : b = true → wpC P N x K s) (h2 : b = false → wpC P N y K s) : wpIf' P N b x y K s := ⟨h1, h2⟩
@[go_sem] theorem wpC_block {id : Nat} {c : Code} : wpC P N (.block id c) K s = wpC P N c (blkK id K) s := by
  have : blkK id K = fun e s => match e with | .exit j => (if j = id then K .normal s else K (.exit j) s) | e => K e s := by
    funext e s; cases e <;> rfl
  rw [this]; rfl
@[go_sem] theorem wpC_exit {id : Nat} : wpC P N (.exit id) K s = K (.exit id) s := rfl
@[go_sem] theorem wpC_ret : wpC P N .ret K s = K .ret s := rfl
@[go_sem] theorem wpC_loop {c : Code} : wpC P N (.loop c) K s = SemCode P N (.loop c) K s := rfl
@[go_sem] theorem seqK_normal {y : Code} : seqK P N y K .normal s = wpC P N y K s := rfl
@[go_sem] theorem seqK_ret {y : Code} : seqK P N y K .ret s = K .ret s := rfl
@[go_sem] theorem seqK_exit {y : Code} {j : Nat} : seqK P N y K (.exit j) s = K (.exit j) s := rfl
@[go_sem] theorem blkK_normal {id : Nat} : blkK id K .normal s = K .normal s := rfl
@[go_sem] theorem blkK_ret {id : Nat} : blkK id K .ret s = K .ret s := rfl
@[go_sem] theorem blkK_exit {id j : Nat} : blkK id K (.exit j) s = if j = id then K .normal s else K (.exit j) s := rfl
end
section
variable {P : Program} {N : Nat} {ops : Array Oper} {K : St → Prop} {s : St}
@[go_sem] theorem wpL_nil : wpL P ops N [] K s = K s := rfl
@[go_sem] theorem wpL_cons {o : Oper} {r : List Oper} : wpL P ops N (o :: r) K s = wpO P ops N o s (wpL P ops N r K) := rfl
@[go_sem] theorem pickV_or (c x : Bool) : pickV c (.bool true) (.bool x) = .bool (c || x) := by cases c <;> cases x <;> rfl
@[go_sem] theorem pickV_and (c x : Bool) : pickV c (.bool x) (.bool false) = .bool (c && x) := by cases c <;> cases x <;> rfl
@[go_sem] theorem beq_true' (b : Bool) : (b == true) = b := by cases b <;> rfl
@[go_sem] theorem beq_false' (b : Bool) : (b == false) = !b := by cases b <;> rfl
end
@[go_sem] theorem lenV_slice {a : Option Addr} {n c : Nat} : lenV (.slice a n c) = some n := rfl
@[go_sem] theorem capV_slice {a : Option Addr} {n c : Nat} : capV (.slice a n c) = some c := rfl
attribute [go_sem] gbit gbitO wpO wpX wpG wpH lightS o1 ov opr look St.put SV.grd SV.str dstOk addLoc setLoc overlay binV unV lenS mkVal rdSV rdLoc moveSV idxSV movable hasAddr notNil vals fillL buildV nilCmp isPtrSV minV maxV bnd eqV eqL eqS neqB resV resL retVal entryL Fin goodVal
end Go.FL
