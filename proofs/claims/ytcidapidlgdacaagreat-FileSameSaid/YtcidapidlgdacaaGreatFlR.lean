/- The facts logic, part R: loops that are run round by round; helpers for proofs. -/
import Derived.Test.YtcidapidlgdacaaGreatFlQ
set_option linter.unusedVariables false
set_option linter.unusedSimpArgs false
namespace Go.FL
section
variable {P : Program} {N : Nat}
def SemRound (P : Program) (N : Nat) (c : Code) (K : Exit → St → Prop) (s : St) : Prop :=
  ∀ w0 m0 a w lam, Inv w0 m0 N a w s lam → ∀ b k cs, ∃ e a' w', AfterE w0 m0 N K e a' w' ∧ Arrives P (lone (b.at a (.code c :: .inLoop c :: k)) cs w) b k cs e a' w'
def unK (P : Program) (N : Nat) (c : Code) (K : Exit → St → Prop) : Exit → St → Prop
  | .normal, s' => SemRound P N c K s'
  | e, s' => K e s'
@[go_sem] theorem unK_normal {c : Code} {K : Exit → St → Prop} {s' : St} : unK P N c K .normal s' = SemRound P N c K s' := rfl
@[go_sem] theorem unK_ret {c : Code} {K : Exit → St → Prop} {s' : St} : unK P N c K .ret s' = K .ret s' := rfl
@[go_sem] theorem unK_exit {c : Code} {K : Exit → St → Prop} {s' : St} {i : Nat} : unK P N c K (.exit i) s' = K (.exit i) s' := rfl
theorem loop_first {c : Code} {K : Exit → St → Prop} {s : St} (h : SemRound P N c K s) : SemCode P N (.loop c) K s := by
  intro w0 m0 a w lam hi b k cs
  obtain ⟨e, a', w', hq, harr⟩ := h w0 m0 a w lam hi b k cs
  exact ⟨e, a', w', hq, .of_steps (.one step_loop) harr⟩
theorem round_next {c : Code} {K : Exit → St → Prop} {s : St} (h : wpC P N c (unK P N c K) s) : SemRound P N c K s := by
  intro w0 m0 a w lam hi b k cs
  obtain ⟨e, a₁, w₁, ⟨s', lam', hi', hk⟩, harr⟩ := wpC_sound c _ _ h w0 m0 a w lam hi b (.inLoop c :: k) cs
  cases e with
  | normal =>
    obtain ⟨e₂, a₂, w₂, hq₂, harr₂⟩ := hk w0 m0 a₁ w₁ lam' hi' b k cs
    exact ⟨e₂, a₂, w₂, hq₂, .of_steps (Steps.trans harr (.one step_inLoop)) harr₂⟩
  | exit id => exact ⟨_, a₁, w₁, ⟨s', lam', hi', hk⟩, .pass (x := .inLoop c) rfl (fun _ _ => .inl (by simp)) harr⟩
  | goto l => exact ⟨_, a₁, w₁, ⟨s', lam', hi', hk⟩, .pass (x := .inLoop c) rfl (fun _ _ => .inl (by simp)) harr⟩
  | ret => exact ⟨_, a₁, w₁, ⟨s', lam', hi', hk⟩, .pass (x := .inLoop c) rfl (fun _ _ => .inl (by simp)) harr⟩
  | panic ch => exact ⟨_, a₁, w₁, ⟨s', lam', hi', hk⟩, .pass (x := .inLoop c) rfl (fun _ _ => .inl (by simp)) harr⟩
  | outgrown => exact ⟨_, a₁, w₁, ⟨s', lam', hi', hk⟩, .pass (x := .inLoop c) rfl (fun _ _ => .inl (by simp)) harr⟩
theorem Pure.at {f : FuncId} {args : List Value} {r : Value} (h : Pure P f args r) (m : Mem) : PureAt P f args m r := h m
theorem wpCall_at {f : FuncId} {args : List Value} {s : St} {K : St → Prop} {d : Option Tmp} {r : Value} (h : PureAt P f args s.m r) (k : K (s.put d (.val r))) : wpCall P f args d s K :=
  CC.mono h fun e m' ⟨h1, h2⟩ => ⟨r, h1, by subst h2; exact k⟩
theorem wpGC_at {f : FuncId} {args : List Value} {p : Prop} {c : Bool} {d : Option Tmp} {s : St} {K : St → Prop} {r : Value} (hp : c = true → p ∧ PureAt P f args s.m r) (k : K (s.put d (.gd c (.val r)))) : wpGC P f args p c d s K := .inr ⟨r, hp, k⟩
theorem wpGC_pure {f : FuncId} {args : List Value} {p : Prop} {c : Bool} {d : Option Tmp} {s : St} {K : St → Prop} {r : Value} (hp : c = true → p) (h : Pure P f args r) (k : K (s.put d (.gd c (.val r)))) : wpGC P f args p c d s K := .inr ⟨r, fun hc => ⟨hp hc, h s.m⟩, k⟩
theorem wpGC_split {f : FuncId} {args : List Value} {p : Prop} {c : Bool} {d : Option Tmp} {s : St} {K : St → Prop} (h1 : c = true → p ∧ wpCall P f args d s K) (h2 : c = false → K (s.put d (.val undef))) : wpGC P f args p c d s K := .inl ⟨h1, h2⟩
end
theorem wrapI {x : Int} (h1 : -9223372036854775808 ≤ x) (h2 : x ≤ 9223372036854775807) : IntKind.i64.wrap x = x := by
  simp [IntKind.wrap, IntKind.bits, IntKind.signed]; omega
@[go_sem] theorem pickV_true (a b : Value) : pickV true a b = a := by rw [pickV_eq]; rfl
@[go_sem] theorem pickV_false (a b : Value) : pickV false a b = b := by rw [pickV_eq]; rfl
@[go_sem] theorem wrap_lit (n : Nat) (h : n < 9223372036854775808) : IntKind.i64.wrap (no_index (OfNat.ofNat n)) = OfNat.ofNat n := by
  show IntKind.i64.wrap (n : Int) = (n : Int)
  exact wrapI (by omega) (by omega)
@[go_sem] theorem wrap_neg_lit (n : Nat) (h : n ≤ 9223372036854775808) : IntKind.i64.wrap (-(no_index (OfNat.ofNat n))) = -(OfNat.ofNat n) := by
  show IntKind.i64.wrap (-(n : Int)) = -(n : Int)
  exact wrapI (by omega) (by omega)
theorem wrapS {i n : Nat} (h : i < n) (hn : n ≤ maxLen) : IntKind.i64.wrap ((i : Int) + 1) = (i : Int) + 1 := by
  simp only [maxLen] at hn; exact wrapI (by omega) (by omega)
theorem take_succ_all {α : Type} {l : List α} {i : Nat} {c : α} {p : α → Prop} (hx : l[i]? = some c) (h : ∀ x ∈ l.take i, p x) (hc : p c) : ∀ x ∈ l.take (i + 1), p x := by
  intro x hm
  rw [List.take_add_one, hx] at hm
  rcases List.mem_append.1 hm with h1 | h1
  · exact h x h1
  · simp at h1; rw [h1]; exact hc
theorem any_false_take {α : Type} {l : List α} {i : Nat} {p : α → Bool} (h : ∀ x ∈ l.take i, p x = false) (hi : l.length ≤ i) : l.any p = false := by
  rw [List.take_of_length_le hi] at h
  rw [List.any_eq_false]; intro x hx; simp [h x hx]
theorem any_true_at {α : Type} {l : List α} {i : Nat} {c : α} {p : α → Bool} (hx : l[i]? = some c) (h : p c = true) : l.any p = true := List.any_eq_true.2 ⟨c, List.mem_of_getElem? hx, h⟩
theorem Sl.shape {α : Type} {enc : α → List Value} {sz : Nat} {m : Mem} {v : Value} {l : List α} (h : Sl enc sz m v l) : ∃ a c, v = .slice a l.length c := by
  have := h.len
  cases v with
  | slice a n c => simp only [lenV, Option.some.injEq] at this; subst this; exact ⟨a, c, rfl⟩
  | _ => cases this
theorem Own.shape {α : Type} {enc : α → List Value} {sz : Nat} {T : TypeId} {m0 m : Mem} {v : Value} {l : List α} (h : Own enc sz T m0 m v l) : ∃ a c, v = .slice a l.length c := by
  rcases h with ⟨rfl, rfl⟩ | ⟨b, cap, rfl, _⟩
  · exact ⟨_, _, rfl⟩
  · exact ⟨_, _, rfl⟩
/-- append to an empty row that was just made -/
theorem sem_append_new {P : Program} {N : Nat} {s : St} {α : Type} {enc : α → List Value} {sz : Nat} {e T : TypeId} {by' : Nat} {z : List Value} {o : Oper} {x y : Operand} {l2 : List α} {K : St → Prop} {u : Value} (k : Nat)
    (hop : o.op = .call { callee := .builtin .append, args := #[x, y], argTypes := #[T, T] }) (hd : dstOk o.dst N = true)
    (ht : telem P T = some (e, sz, by')) (hz : tzero P e = some z) (hzl : z.length = sz) (h0 : 0 < sz)
    (hx : opr s.E x = some (.lsl k 0)) (hk : s.L[k]? = some (some (e, []))) (hy : opr s.E y = some (.val u)) (hu : Sl enc sz s.m u l2)
    (hel : ∀ x, (enc x).length = sz) (hone : ∀ x u, u ∈ enc x → u.oneCell' = true)
    (hlen : l2.length ≤ maxLen) (hby : l2.length * by' ≤ 140737488355328)
    (h : ∀ b v' m', s.m.le m' → Own enc sz e s.m m' v' l2 → K ((St.mk (matE k b s.E) (s.L.set k none) m').put o.dst (.val v'))) : SemOp P N o s K := by
  refine sem_mat k hk (fun b hf => ?_)
  have hle := le_setRow hf e [] 0
  have hox : opr (matE k b s.E) x = some (.val (.slice (some ⟨b, 0, none⟩) 0 0)) := by
    cases x with
    | tmp t =>
      simp only [opr] at hx ⊢
      have : ∀ E, look E t = some (.lsl k 0) → look (matE k b E) t = some (.val (.slice (some ⟨b, 0, none⟩) 0 0)) := by
        intro E
        induction E with
        | nil => intro h; cases h
        | cons q r ih =>
          obtain ⟨w, q⟩ := q
          simp only [look, matE]
          split
          · intro h; cases h; simp [SV.mat]
          · exact ih
      exact this _ hx
    | const v => simp [opr] at hx
    | func f => simp [opr] at hx
    | global g => cases hx
  have hoy : opr (matE k b s.E) y = some (.val u) := by
    cases y with
    | tmp t =>
      simp only [opr] at hy ⊢
      have : ∀ E, look E t = some (.val u) → look (matE k b E) t = some (.val u) := by
        intro E
        induction E with
        | nil => intro h; cases h
        | cons q r ih =>
          obtain ⟨w, q⟩ := q
          simp only [look, matE]
          split
          · intro h; cases h; simp [SV.mat]
          · exact ih
      exact this _ hy
    | const v => simpa [opr] using hy
    | func f => simpa [opr] using hy
    | global g => cases hy
  refine sem_append (enc := enc) (sz := sz) (e := e) (T := T) (m0 := s.m) (l := []) (l2 := l2) hop hd ht hz hzl h0 hox hle
    (Own.mat (l := []) hf hel (by simp)) (.inr ⟨u, hoy, hu.le hle⟩) hel hone (by simpa using hlen) (by simpa using hby) (fun v' m' k1 k2 k3 k4 => ?_)
  exact h b v' m' k1 (by simpa using k2)
/-- an int of 64 bits -/
def I64 (x : Int) : Prop := -9223372036854775808 ≤ x ∧ x ≤ 9223372036854775807
end Go.FL
