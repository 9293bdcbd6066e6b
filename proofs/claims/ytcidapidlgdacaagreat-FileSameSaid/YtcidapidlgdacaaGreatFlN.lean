/- The facts logic, part N: regions that draw, and calls, for simp. -/
import Derived.Test.YtcidapidlgdacaaGreatFlM
set_option linter.unusedVariables false
namespace Go.FL
section
variable {P : Program} {N : Nat} {ops : Array Oper} {LS : List (Option (TypeId × List Value))} {mS : Mem} {K : St → Prop} {s : St}
def lightK (P : Program) (ops : Array Oper) (N : Nat) (LS : List (Option (TypeId × List Value))) (mS : Mem) (o : Option Oper) (s : St) (K : St → Prop) : Prop :=
  match o with
  | some o => lightO P ops N LS mS o s K
  | none => False
def hardK (P : Program) (ops : Array Oper) (N : Nat) (o : Option Oper) (s : St) (K : St → Prop) : Prop :=
  match o with
  | some o => wpO P ops N o s K
  | none => False
@[go_sem] theorem wpD_nil : wpD P ops N LS mS [] K s = K s := rfl
@[go_sem] theorem wpD_light {i : Nat} {l : List (Nat × Nat)} : wpD P ops N LS mS ((i, 0) :: l) K s = lightK P ops N LS mS ops[i]? s (wpD P ops N LS mS l K) := by
  unfold lightK wpD; split <;> simp_all
def barK (P : Program) (ops : Array Oper) (N : Nat) (l : List (Nat × Nat)) (K : St → Prop) (s : St) : Prop := noE s.E (dstsOf ops l) ∧ wpD P ops N s.L s.m l K s
@[go_sem] theorem wpD_hard {i : Nat} {l : List (Nat × Nat)} : wpD P ops N LS mS ((i, 1) :: l) K s = hardK P ops N ops[i]? s (andK (keepS LS mS (dstsOf ops l)) (wpD P ops N LS mS l K)) := by
  unfold hardK wpD; split <;> simp_all
@[go_sem] theorem wpD_late {i : Nat} {l : List (Nat × Nat)} : wpD P ops N LS mS ((i, 2) :: l) K s = hardK P ops N ops[i]? s (andK (keepS LS mS (dstsOf ops l)) (wpD P ops N LS mS l K)) := by
  unfold hardK wpD; split <;> simp_all
@[go_sem] theorem wpD_bar {i : Nat} {l : List (Nat × Nat)} : wpD P ops N LS mS ((i, 3) :: l) K s = hardK P ops N ops[i]? s (barK P ops N l K) := by
  unfold hardK wpD; split <;> simp_all <;> rfl
def skipK (ops : Array Oper) (N : Nat) (o : Option Oper) (s : St) (K : St → Prop) : Prop :=
  match o with
  | some o => skipO ops N o s K
  | none => False
def moreK (P : Program) (ops : Array Oper) (N : Nat) (LS : List (Option (TypeId × List Value))) (mS : Mem) (l : List (Nat × Nat)) (K : St → Prop) (s : St) : Prop := keepS LS mS (dstsOf ops l) s ∧ wpD P ops N s.L s.m l K s
@[go_sem] theorem wpD_more {i : Nat} {l : List (Nat × Nat)} : wpD P ops N LS mS ((i, 5) :: l) K s = hardK P ops N ops[i]? s (moreK P ops N LS mS l K) := by
  unfold hardK wpD; split <;> simp_all <;> rfl
@[go_sem] theorem moreK_eq {l : List (Nat × Nat)} : moreK P ops N LS mS l K s = (keepS LS mS (dstsOf ops l) s ∧ wpD P ops N s.L s.m l K s) := rfl
@[go_sem] theorem wpD_skip {i : Nat} {l : List (Nat × Nat)} : wpD P ops N LS mS ((i, 4) :: l) K s = skipK ops N ops[i]? s (wpD P ops N LS mS l K) := by
  unfold skipK wpD; split <;> simp_all
@[go_sem] theorem skipK_some {o : Oper} : skipK ops N (some o) s K = skipO ops N o s K := rfl
@[go_sem] theorem barK_eq {l : List (Nat × Nat)} : barK P ops N l K s = (noE s.E (dstsOf ops l) ∧ wpD P ops N s.L s.m l K s) := rfl
@[go_sem] theorem lightK_some {o : Oper} : lightK P ops N LS mS (some o) s K = lightO P ops N LS mS o s K := rfl
@[go_sem] theorem hardK_some {o : Oper} : hardK P ops N (some o) s K = wpO P ops N o s K := rfl
@[go_sem] theorem andK_eq {A : St → Prop} : andK A K s = (A s ∧ K s) := rfl
@[go_sem] theorem le_self {m : Mem} : m.le m ↔ True := ⟨fun _ => trivial, fun _ => Mem.le.refl m⟩
@[go_sem] theorem covL_refl {l : List (Option (TypeId × List Value))} : covL l l ↔ True := ⟨fun _ => trivial, fun _ => covL_self l⟩
@[go_sem] theorem covL_nil {l : List (Option (TypeId × List Value))} : covL [] l ↔ True := ⟨fun _ => trivial, fun _ => trivial⟩
@[go_sem] theorem covL_cons {x y : Option (TypeId × List Value)} {r t : List (Option (TypeId × List Value))} : covL (x :: r) (y :: t) ↔ (x = none ∨ x = y) ∧ covL r t := Iff.rfl
theorem wpCall_of {f : FuncId} {args : List Value} {d : Option Tmp} {R : Ending → Mem → Prop} (h : CC P f args s.m R) (k : ∀ e m', R e m' → ∃ v, e = .returned v ∧ K ((St.mk s.E s.L m').put d (.val v))) : wpCall P f args d s K := h.mono k
theorem wpCall_pure {f : FuncId} {args : List Value} {d : Option Tmp} {r : Value} (h : Pure P f args r) (k : K (s.put d (.val r))) : wpCall P f args d s K :=
  (h s.m).mono fun e m' ⟨h1, h2⟩ => ⟨r, h1, by subst h2; exact k⟩
end
attribute [go_sem] skipO lightO lightD lightDG keepS noE dstsOf subE okE SV.ok
end Go.FL
