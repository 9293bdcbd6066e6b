import Derived.Test.YtcidapidlgdacaaGreatFsZ
import Derived.Test.YtcidapidlgdacaaGreatFlT
set_option linter.unusedVariables false
set_option linter.unusedSimpArgs false
namespace Go.Proofs.YtcidapidlgdacaaGreat
open Go.FL
set_option maxRecDepth 10000
theorem setObj_le {m m' : Mem} {r : Nat} (hf : m.fresh r) (x : Obj) (h : m.le m') : m.le (m'.setObj r x) := by
  refine ⟨fun b o v hv => ?_, fun b y hv => ?_, fun b y hv => ?_⟩
  · have hne : b ≠ r := fun e => by subst e; rw [hf.1] at hv; cases hv
    simp only [Mem.setObj, if_neg hne]; exact h.cell _ _ _ hv
  · have hne : b ≠ r := fun e => by subst e; rw [hf.2.1] at hv; cases hv
    simp only [Mem.setObj, if_neg hne]; exact h.own _ _ hv
  · have hne : b ≠ r := fun e => by subst e; rw [hf.2.2] at hv; cases hv
    simp only [Mem.setObj, if_neg hne]; exact h.obj _ _ hv
theorem setObj_setObj (m : Mem) (r : Nat) (x y : Obj) : (m.setObj r x).setObj r y = m.setObj r y := by
  simp only [Mem.setObj, Mem.mk.injEq]
  refine ⟨?_, ?_, ?_⟩
  · funext b o; split <;> simp_all
  · funext b; split <;> simp_all
  · funext b; split <;> simp_all
theorem same_self (m : Mem) (b : ByteArray) (hb : b.size ≤ maxLen) (ha : ∀ i (h : i < b.size), (b[i]'h).toNat < 128) (Q : Ending → Mem → Prop) (hQ : ∀ m', m.le m' → Q (.returned (.bool true)) m') : CC Tryz.prog 41 [.string b, .string b] m Q := by
  refine cc_enter Tryz.func41 Tryz.ntmps41 rfl (by kernel_rfl) (by simp) ?_
  simp -implicitDefEqProofs [go_sem]
  refine sem_range (b := b) rfl rfl (by kernel_rfl) rfl (fun r hr => ?_)
  simp -implicitDefEqProofs [go_sem]
  refine loop_rule (fun p : Nat => ⟨[(13, .val (.pointer (some ⟨r, 0, none⟩))), (1, .val (.string b))], [], m.setObj r (.stringIter b p)⟩) (fun p => p ≤ b.size) (fun p => b.size - p) 0 (by omega) (St.le_mk (by simp [go_sem]) (by simp [go_sem]) (by simp [go_sem]) (Mem.le.refl _)) (fun p hp => ?_)
  have hobj : (m.setObj r (.stringIter b p)).obj r = some (.stringIter b p) := by simp [Mem.setObj]
  simp -implicitDefEqProofs [go_sem]
  rcases Nat.lt_or_ge p b.size with hlt | hge
  · refine sem_next (b := b) (r := r) (pos := p) rfl rfl rfl hobj hlt (decode_ascii b p hlt (ha p hlt)) ?_
    have e1 : (sbyte b p : Int) = (b[p]'hlt).toNat := by
      have : b.data.toList[p]? = some (b[p]'hlt) := by
        rw [Array.getElem?_toList]; exact Array.getElem?_eq_getElem hlt
      simp [sbyte, this]
    have hx := ha p hlt
    have e2 : IntKind.i32.wrap ((b[p]'hlt).toNat : Int) = (b[p]'hlt).toNat := by simp [IntKind.wrap, IntKind.bits, IntKind.signed]; omega
    simp -implicitDefEqProofs [go_sem, e1, e2, hlt]
    exact roundK_normal (p + 1) (by omega) (St.le_mk (by simp [go_sem]) (by simp [go_sem]) (by simp [go_sem]) (by simp only [setObj_setObj]; exact Mem.le.refl _)) (by omega)
  · refine sem_next_end (b := b) (r := r) (pos := p) rfl rfl rfl hobj (by omega) ?_
    simp -implicitDefEqProofs [go_sem]
    exact hQ _ (setObj_le hr _ (Mem.le.refl _))
end Go.Proofs.YtcidapidlgdacaaGreat
