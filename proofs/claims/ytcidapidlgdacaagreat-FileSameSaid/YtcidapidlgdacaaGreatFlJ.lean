/- The facts logic, part J: states that know less; loops; regions that draw their order. -/
import Derived.Test.YtcidapidlgdacaaGreatFlI
import Derived.Deep.RegionHeld3
set_option linter.unusedVariables false
set_option linter.unusedSimpArgs false
namespace Go.FL

structure Mem.le (m m' : Mem) : Prop where
  cell : ∀ b o v, m.cell b o = some v → m'.cell b o = some v
  own : ∀ b x, m.own b = some x → m'.own b = some x
  obj : ∀ b x, m.obj b = some x → m'.obj b = some x
theorem Mem.le.refl (m : Mem) : m.le m := ⟨fun _ _ _ h => h, fun _ _ h => h, fun _ _ h => h⟩
theorem Mem.le.trans {m m' m'' : Mem} (h : m.le m') (k : m'.le m'') : m.le m'' := ⟨fun b o v hv => k.cell b o v (h.cell b o v hv), fun b x hx => k.own b x (h.own b x hx), fun b x hx => k.obj b x (h.obj b x hx)⟩
theorem Sat.le {w : World} {m m' : Mem} (h : Sat w m') (hl : m.le m') : Sat w m := by
  refine ⟨fun b o v hv => h.cell b o v (hl.cell b o v hv), fun b T n c hc => ?_, fun b x hx => h.obj b x (hl.obj b x hx)⟩
  obtain ⟨h1, h2, h3⟩ := h.own b T n c (hl.own b _ hc)
  refine ⟨h1, h2, fun o ho => ?_⟩
  cases hx : m.cell b o with
  | none => rfl
  | some v => have := hl.cell b o v hx; rw [h3 o ho] at this; cases this
theorem Mem.le.fresh {m m' : Mem} (h : m.le m') {b : Nat} (hf : m'.fresh b) : m.fresh b := by
  refine ⟨fun o => ?_, ?_, ?_⟩
  · cases hx : m.cell b o with
    | none => rfl
    | some v => have := h.cell b o v hx; rw [hf.1 o] at this; cases this
  · cases hx : m.own b with
    | none => rfl
    | some v => have := h.own b v hx; rw [hf.2.1] at this; cases this
  · cases hx : m.obj b with
    | none => rfl
    | some v => have := h.obj b v hx; rw [hf.2.2] at this; cases this
theorem Frm.le {m m1 m2 : Mem} {w w' : World} (h : Frm m m2 w w') (hl : m1.le m2) : Frm m m1 w w' := by
  refine ⟨h.os, h.tape, h.output, h.size, h.keep, fun b hb hx => h.new b hb ?_, fun b hb hf => hl.fresh (h.dom b hb hf)⟩
  rcases hx with hx | hx
  · left; cases hy : m1.own b with
    | none => exact absurd hy hx
    | some v => rw [hl.own b v hy]; simp
  · right; cases hy : m1.obj b with
    | none => exact absurd hy hx
    | some v => rw [hl.obj b v hy]; simp

/-- private blocks: those that are known on the left are so on the right -/
def covL : List (Option (TypeId × List Value)) → List (Option (TypeId × List Value)) → Prop
  | [], _ => True
  | x :: r, y :: t => (x = none ∨ x = y) ∧ covL r t
  | _ :: _, [] => False
theorem covL_self : ∀ l, covL l l
  | [] => trivial
  | x :: r => ⟨.inr rfl, covL_self r⟩
theorem covL_len : ∀ {l l' : List (Option (TypeId × List Value))}, covL l l' → l.length ≤ l'.length
  | [], _, _ => Nat.zero_le _
  | _ :: r, [], h => h.elim
  | _ :: r, _ :: t, h => Nat.succ_le_succ (covL_len h.2)
theorem covL_get : ∀ {l l' : List (Option (TypeId × List Value))}, covL l l' → ∀ {k : Nat} {x : TypeId × List Value}, l[k]? = some (some x) → l'[k]? = some (some x)
  | [], _, _, k, x, hk => by simp at hk
  | _ :: r, [], h, k, x, hk => h.elim
  | y :: r, z :: t, h, 0, x, hk => by
    simp only [List.getElem?_cons_zero, Option.some.injEq] at hk ⊢
    subst hk
    rcases h.1 with h1 | h1
    · cases h1
    · exact h1.symm
  | y :: r, z :: t, h, k + 1, x, hk => by
    simp only [List.getElem?_cons_succ] at hk ⊢
    exact covL_get h.2 hk
/-- x knows no more than s. -/
structure St.le (x s : St) : Prop where
  env : ∀ t sv, look x.E t = some sv → look s.E t = some sv
  ok : ∀ t sv, look x.E t = some sv → sv.ok x.L.length
  loc : covL x.L s.L
  mem : x.m.le s.m
theorem Inv.weaken {w0 : World} {m0 : Mem} {N : Nat} {a : Act} {w : World} {x s : St} {lam : Nat → Nat} (h : Inv w0 m0 N a w s lam) (hl : x.le s) : Inv w0 m0 N a w x lam := by
  have hal : ∀ {k : Nat}, x.al k → s.al k := fun {k} ⟨y, hy⟩ => ⟨y, covL_get hl.loc hy⟩
  refine ⟨h.defers, h.size, fun t sv ht => h.env t sv (hl.env t sv ht), hl.ok, fun k T cs hk => h.loc k T cs (covL_get hl.loc hk), fun j k hj hk => h.inj j k (hal hj) (hal hk), fun k hk => hl.mem.fresh (h.sep k (hal hk)), fun k hk => h.old k (hal hk), h.sat.le hl.mem, h.frm.le hl.mem⟩
def subE : List (Nat × SV) → List (Nat × SV) → Prop
  | [], _ => True
  | (t, v) :: r, E => look E t = some v ∧ subE r E
def okE (n : Nat) : List (Nat × SV) → Prop
  | [] => True
  | (_, v) :: r => v.ok n ∧ okE n r
theorem subE_ok : ∀ {A E : List (Nat × SV)}, subE A E → ∀ t sv, look A t = some sv → look E t = some sv
  | [], E, _, t, sv, h => by cases h
  | (u, v) :: r, E, hs, t, sv, h => by
    simp only [look] at h
    split at h
    · rename_i he; subst he; cases h; exact hs.1
    · exact subE_ok hs.2 t sv h
theorem okE_ok {n : Nat} : ∀ {A : List (Nat × SV)}, okE n A → ∀ t sv, look A t = some sv → sv.ok n
  | [], _, t, sv, h => by cases h
  | (u, v) :: r, hs, t, sv, h => by
    simp only [look] at h
    split at h
    · cases h; exact hs.1
    · exact okE_ok hs.2 t sv h
theorem St.le_mk {x s : St} (h1 : subE x.E s.E) (h2 : okE x.L.length x.E) (h3 : covL x.L s.L) (h4 : x.m.le s.m) : x.le s := ⟨subE_ok h1, okE_ok h2, h3, h4⟩

section
variable {P : Program} {N : Nat}
/-- Known less is enough. -/
theorem SemCode.weaken {c : Code} {K : Exit → St → Prop} {x s : St} (hl : x.le s) (h : SemCode P N c K x) : SemCode P N c K s :=
  fun w0 m0 a w lam hi => h w0 m0 a w lam (hi.weaken hl)

/-- what a round leaves -/
def roundK {α : Type} (st : α → St) (J : α → Prop) (μ : α → Nat) (x : α) (K : Exit → St → Prop) : Exit → St → Prop
  | .normal, s' => ∃ y, J y ∧ (st y).le s' ∧ μ y < μ x
  | e, s' => K e s'
theorem roundK_normal {α : Type} {st : α → St} {J : α → Prop} {μ : α → Nat} {x : α} {K : Exit → St → Prop} {s' : St} (y : α) (h1 : J y) (h2 : (st y).le s') (h3 : μ y < μ x) : roundK st J μ x K .normal s' := ⟨y, h1, h2, h3⟩
@[go_sem] theorem roundK_ret {α : Type} {st : α → St} {J : α → Prop} {μ : α → Nat} {x : α} {K : Exit → St → Prop} {s' : St} : roundK st J μ x K .ret s' = K .ret s' := rfl
@[go_sem] theorem roundK_exit {α : Type} {st : α → St} {J : α → Prop} {μ : α → Nat} {x : α} {K : Exit → St → Prop} {s' : St} {i : Nat} : roundK st J μ x K (.exit i) s' = K (.exit i) s' := rfl
theorem loop_rule {α : Type} (st : α → St) (J : α → Prop) (μ : α → Nat) (x0 : α) {c : Code} {K : Exit → St → Prop} {s : St} (h0 : J x0) (hle : (st x0).le s)
    (hr : ∀ x, J x → wpC P N c (roundK st J μ x K) (st x)) : SemCode P N (.loop c) K s := by
  intro w0 m0 a w lam hi b k cs
  have key : ∀ n x a w lam, μ x = n → J x → Inv w0 m0 N a w (st x) lam →
      ∃ e a' w', AfterE w0 m0 N K e a' w' ∧ Arrives P (lone (b.at a (.code c :: .inLoop c :: k)) cs w) b k cs e a' w' := by
    intro n
    induction n using Nat.strongRecOn with
    | _ n ih =>
      intro x a w lam hn hJ hi
      obtain ⟨e, a₁, w₁, ⟨s', lam', hi', hk⟩, harr⟩ := wpC_sound c _ _ (hr x hJ) w0 m0 a w lam hi b (.inLoop c :: k) cs
      cases e with
      | normal =>
        obtain ⟨y, hy, hle', hlt⟩ := hk
        obtain ⟨e₂, a₂, w₂, hq₂, harr₂⟩ := ih (μ y) (hn ▸ hlt) y a₁ w₁ lam' rfl hy (hi'.weaken hle')
        exact ⟨e₂, a₂, w₂, hq₂, .of_steps (Steps.trans harr (.one step_inLoop)) harr₂⟩
      | exit id => exact ⟨_, a₁, w₁, ⟨s', lam', hi', hk⟩, .pass (x := .inLoop c) rfl (fun _ _ => .inl (by simp)) harr⟩
      | goto l => exact ⟨_, a₁, w₁, ⟨s', lam', hi', hk⟩, .pass (x := .inLoop c) rfl (fun _ _ => .inl (by simp)) harr⟩
      | ret => exact ⟨_, a₁, w₁, ⟨s', lam', hi', hk⟩, .pass (x := .inLoop c) rfl (fun _ _ => .inl (by simp)) harr⟩
      | panic ch => exact ⟨_, a₁, w₁, ⟨s', lam', hi', hk⟩, .pass (x := .inLoop c) rfl (fun _ _ => .inl (by simp)) harr⟩
      | outgrown => exact ⟨_, a₁, w₁, ⟨s', lam', hi', hk⟩, .pass (x := .inLoop c) rfl (fun _ _ => .inl (by simp)) harr⟩
  obtain ⟨e, a', w', hq, harr⟩ := key _ x0 a w lam rfl h0 (hi.weaken hle)
  exact ⟨e, a', w', hq, .of_steps (.one step_loop) harr⟩
end
end Go.FL
