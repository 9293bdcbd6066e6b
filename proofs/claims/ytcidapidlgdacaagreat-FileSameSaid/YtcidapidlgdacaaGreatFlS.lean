/- The facts logic, part S: small helpers for proofs. -/
import Derived.Test.YtcidapidlgdacaaGreatFlR
set_option linter.unusedVariables false
set_option linter.unusedSimpArgs false
namespace Go.FL
theorem Sl.shape3 {α : Type} {enc : α → List Value} {sz : Nat} {m : Mem} {v : Value} {l : List α} (h : Sl enc sz m v l) : ∃ a n c, v = .slice a n c ∧ n = l.length := by
  obtain ⟨a, c, h⟩ := h.shape; exact ⟨a, _, c, h, rfl⟩
theorem Own.shape3 {α : Type} {enc : α → List Value} {sz : Nat} {T : TypeId} {m0 m : Mem} {v : Value} {l : List α} (h : Own enc sz T m0 m v l) : ∃ a n c, v = .slice a n c ∧ n = l.length := by
  obtain ⟨a, c, h⟩ := h.shape; exact ⟨a, _, c, h, rfl⟩
/-- rows of different element types are different rows -/
theorem Own.ne {α β : Type} {enc : α → List Value} {enc' : β → List Value} {sz sz' : Nat} {T T' : TypeId} {m0 m1 m : Mem} {v v' : Value} {l : List α} {l' : List β} (h : Own enc sz T m0 m v l) (h' : Own enc' sz' T' m1 m v' l') (hT : T ≠ T') : v.ownBlock = none ∨ v.ownBlock ≠ v'.ownBlock := by
  rcases h with ⟨rfl, rfl⟩ | ⟨b, cap, rfl, h1, h2, h3, h4, h5⟩
  · exact .inl rfl
  · refine .inr ?_
    rcases h' with ⟨rfl, rfl⟩ | ⟨b', cap', rfl, k1, k2, k3, k4, k5⟩
    · simp [Value.ownBlock]
    · intro he
      simp [Value.ownBlock] at he
      subst he
      rw [h4] at k4; injection k4 with k4; injection k4 with k4 _; exact hT k4
section
variable {P : Program} {N : Nat}
theorem wpL_mono {ops : Array Oper} {K K' : St → Prop} (hk : ∀ s, K s → K' s) : ∀ (l : List Oper) (s : St), wpL P ops N l K s → wpL P ops N l K' s
  | [], s, h => hk s h
  | o :: r, s, h => by
    rw [wpL_cons] at h ⊢
    exact wpO_mono (fun s' h' => wpL_mono hk r s' h') h
theorem wpC_mono : ∀ (c : Code) {K K' : Exit → St → Prop} (hk : ∀ e s, K e s → K' e s) (s : St), wpC P N c K s → wpC P N c K' s
  | .skip, K, K', hk, s, h => hk _ _ h
  | .label _, K, K', hk, s, h => hk _ _ h
  | .region id ops d, K, K', hk, s, h => by
    cases d with
    | false => exact wpL_mono (fun s h => hk _ s h) _ s h
    | true => exact SemCode.mono h hk
  | .seq x y, K, K', hk, s, h => by
    refine wpC_mono x (fun e s' h' => ?_) s h
    cases e with
    | normal => exact wpC_mono y hk s' h'
    | _ => exact hk _ _ h'
  | .cond c x y, K, K', hk, s, h => by
    unfold wpC at h ⊢
    split at h
    · exact ⟨fun hb => wpC_mono x hk s (h.1 hb), fun hb => wpC_mono y hk s (h.2 hb)⟩
    · exact h
  | .block id c, K, K', hk, s, h => by
    refine wpC_mono c (fun e s' h' => ?_) s h
    cases e with
    | exit j =>
      simp only at h' ⊢
      split at h'
      · rename_i hj; rw [if_pos hj]; exact hk _ _ h'
      · rename_i hj; rw [if_neg hj]; exact hk _ _ h'
    | _ => exact hk _ _ h'
  | .exit id, K, K', hk, s, h => hk _ _ h
  | .ret, K, K', hk, s, h => hk _ _ h
  | .loop c, K, K', hk, s, h => SemCode.mono h hk
  | .scope c, K, K', hk, s, h => SemCode.mono h hk
  | .rangeFunc x t c d, K, K', hk, s, h => SemCode.mono h hk
  | .goto l, K, K', hk, s, h => SemCode.mono h hk
  | .refuse t, K, K', hk, s, h => h
/-- two ways that meet again: behind them all that is known is J -/
def joinK (J : St → Prop) (K : Exit → St → Prop) : Exit → St → Prop
  | .normal, s => J s
  | e, s => K e s
@[go_sem] theorem joinK_normal {J : St → Prop} {K : Exit → St → Prop} {s : St} : joinK J K .normal s = J s := rfl
@[go_sem] theorem joinK_ret {J : St → Prop} {K : Exit → St → Prop} {s : St} : joinK J K .ret s = K .ret s := rfl
@[go_sem] theorem joinK_exit {J : St → Prop} {K : Exit → St → Prop} {s : St} {j : Nat} : joinK J K (.exit j) s = K (.exit j) s := rfl
theorem wpIf_join {b : Bool} {x y : Code} {K : Exit → St → Prop} {s : St} (J : St → Prop) (h : ∀ s', J s' → K .normal s') (h1 : b = true → wpC P N x (joinK J K) s) (h2 : b = false → wpC P N y (joinK J K) s) : wpIf' P N b x y K s := by
  have hk : ∀ e s', joinK J K e s' → K e s' := fun e s' h' => by
    cases e with
    | normal => exact h s' h'
    | _ => exact h'
  exact ⟨fun hb => wpC_mono x hk s (h1 hb), fun hb => wpC_mono y hk s (h2 hb)⟩
/-- what a way leaves, told by slots, private blocks and facts -/
def JE (E : List (Nat × SV)) (L : List (Option (TypeId × List Value))) (m : Mem) (s : St) : Prop := subE E s.E ∧ L = s.L ∧ m = s.m
@[go_sem] theorem JE_mk {E E' : List (Nat × SV)} {L L' : List (Option (TypeId × List Value))} {m m' : Mem} : JE E L m ⟨E', L', m'⟩ = (subE E E' ∧ L = L' ∧ m = m') := rfl
end
theorem Sl.byte' {m : Mem} {v : Value} {b : List UInt8} (hb : Sl enc8 1 m v b) {j : Int} (h0 : 0 ≤ j) (h1 : j < b.length) :
    rdA m (eltAddr v j 1 0) 1 = some [.int .u8 (((b[j.toNat]?).getD 0).toNat : Int)] ∧ (eltAddr v j 1 0).isSome = true := by
  have hlt : j.toNat < b.length := by omega
  obtain ⟨x, hx⟩ : ∃ x, b[j.toNat]? = some x := ⟨b[j.toNat], by simp [hlt]⟩
  rw [hx]
  exact ⟨hb.rd_all hx rfl, hb.adr hx 0⟩
end Go.FL
