/- The facts logic, part T: ranges over strings. -/
import Derived.Test.YtcidapidlgdacaaGreatFlS
import Derived.Laws.RangeString
set_option linter.unusedVariables false
set_option linter.unusedSimpArgs false
namespace Go.FL
section
variable {P : Program} {N : Nat} {s : St}
theorem Sat.newObj {w : World} {m : Mem} (h : Sat w m) (x : Obj) : Sat (w.alloc x) (m.setObj w.heap.size x) := by
  have ha := h.alloc x
  have hfr := h.fresh_of_ge (Nat.le_refl w.heap.size)
  refine ⟨fun b o v hv => ?_, fun b T n c hv => ?_, fun b y hv => ?_⟩
  · simp only [Mem.setObj] at hv; split at hv
    · cases hv
    · exact ha.cell b o v hv
  · simp only [Mem.setObj] at hv; split at hv
    · cases hv
    · rename_i hne
      obtain ⟨h1, h2, h3⟩ := ha.own b T n c hv
      refine ⟨h1, h2, fun o ho => ?_⟩
      simp only [Mem.setObj, if_neg hne]; exact h3 o ho
  · simp only [Mem.setObj] at hv; split at hv
    · rename_i he; subst he; cases hv
      show (w.heap.push _)[w.heap.size]? = _; simp
    · exact ha.obj b y hv
theorem Frm.newObj {m : Mem} {w : World} (x : Obj) : Frm m (m.setObj w.heap.size x) w (w.alloc x) := by
  have := Frm.alloc m w x
  refine ⟨this.os, this.tape, this.output, this.size, this.keep, fun b hb h1 => ?_, fun b hb h1 => ?_⟩
  · have hne : b ≠ w.heap.size := by omega
    simpa [Mem.setObj, hne] using h1
  · have hne : b ≠ w.heap.size := by omega
    simpa [Mem.setObj, hne, Mem.fresh] using h1
def putObj (w : World) (r : Nat) (x : Obj) : World := { w with heap := w.heap.setIfInBounds r x }
theorem Sat.putObj {w : World} {m : Mem} (h : Sat w m) {r : Nat} {y : Obj} (hy : m.obj r = some y) (hrow : ∀ cs T f, y ≠ .cells cs T f) (x : Obj) : Sat (FL.putObj w r x) (m.setObj r x) := by
  have hw := h.obj r y hy
  have hlt : r < w.heap.size := (Array.getElem?_eq_some_iff.1 hw).1
  have hoth : ∀ b, b ≠ r → (FL.putObj w r x).heap[b]? = w.heap[b]? := fun b hb => by simp [FL.putObj, Array.getElem?_setIfInBounds, Ne.symm hb]
  refine ⟨fun b o v hv => ?_, fun b T n c hv => ?_, fun b z hv => ?_⟩
  · simp only [Mem.setObj] at hv; split at hv
    · cases hv
    · rename_i hne
      have := h.cell b o v hv
      unfold World.cell? at this ⊢; rw [hoth b hne]; exact this
  · simp only [Mem.setObj] at hv; split at hv
    · cases hv
    · rename_i hne
      obtain ⟨⟨cs, h1, h1'⟩, h2, h3⟩ := h.own b T n c hv
      refine ⟨⟨cs, by rw [hoth b hne]; exact h1, h1'⟩, h2, fun o ho => ?_⟩
      simp only [Mem.setObj, if_neg hne]; exact h3 o ho
  · simp only [Mem.setObj] at hv; split at hv
    · rename_i he; subst he; cases hv
      simp [FL.putObj, Array.getElem?_setIfInBounds, hlt]
    · rename_i hne; rw [hoth b hne]; exact h.obj b z hv
theorem Frm.putObj {m : Mem} {w : World} {r : Nat} {y : Obj} (hy : m.obj r = some y) (x : Obj) : Frm m (m.setObj r x) w (FL.putObj w r x) := by
  refine ⟨rfl, rfl, rfl, by simp [FL.putObj], fun b hb h1 h2 => ?_, fun b hb h1 => ?_, fun b hb h1 => ?_⟩
  · have hne : r ≠ b := fun e => by subst e; rw [hy] at h2; cases h2
    simp [FL.putObj, Array.getElem?_setIfInBounds, hne]
  · by_cases he : b = r
    · subst he; right; rw [hy]; simp
    · simpa [Mem.setObj, he] using h1
  · have hne : b ≠ r := fun e => by subst e; have := h1.2.2; rw [hy] at this; cases this
    simpa [Mem.setObj, hne, Mem.fresh] using h1
theorem sem_range {o : Oper} {T : TypeId} {x : Operand} {b : ByteArray} {K : St → Prop} (hop : o.op = .range T x) (hd : dstOk o.dst N = true) (ht : P.underlying T = some .string) (hx : opr s.E x = some (.val (.string b)))
    (h : ∀ r, s.m.fresh r → K ((St.mk s.E s.L (s.m.setObj r (.stringIter b 0))).put o.dst (.val (.pointer (some ⟨r, 0, none⟩))))) : SemOp P N o s K := by
  refine sem_step hd fun a w lam hr => ?_
  have ex : a.eval x = .string b := opr_ok hr hx
  refine ⟨_, .pointer (some ⟨w.heap.size, 0, none⟩), _, _, ?_, .inl rfl, hr.sat.newObj (.stringIter b 0), Frm.newObj _, h _ (hr.sat.fresh_of_ge (Nat.le_refl _))⟩
  simp only [execOp, hop, ex, Sem.run_bind, run_range_string w T b ht]
  rfl
theorem sem_next {o : Oper} {x : Operand} {b : ByteArray} {r pos c wd : Nat} {K : St → Prop} (hop : o.op = .next x true) (hd : dstOk o.dst N = true) (hx : opr s.E x = some (.val (.pointer (some ⟨r, 0, none⟩)))) (ho : s.m.obj r = some (.stringIter b pos))
    (hlt : pos < b.size) (hdc : Utf8.decode b pos = (c, wd)) (h : K ((St.mk s.E s.L (s.m.setObj r (.stringIter b (pos + wd)))).put o.dst (.val (.tuple #[.bool true, .int .i64 pos, .int .i32 c])))) : SemOp P N o s K := by
  refine sem_step hd fun a w lam hr => ?_
  have ex : a.eval x = .pointer (some ⟨r, 0, none⟩) := opr_ok hr hx
  have hw := hr.sat.obj r _ ho
  refine ⟨_, .tuple #[.bool true, .int .i64 pos, .int .i32 c], _, _, ?_, .inl rfl, hr.sat.putObj ho (by intro _ _ _ h; cases h) (.stringIter b (pos + wd)), Frm.putObj ho _, h⟩
  simp only [execOp, hop, ex, Instr.next, getObj, setObj, Sem.run_bind, Sem.run, hw, Result.andThen, hlt, if_true, hdc]
  simp [goInt, Sem.run, hw, putObj]
theorem sem_next_end {o : Oper} {x : Operand} {b : ByteArray} {r pos : Nat} {K : St → Prop} (hop : o.op = .next x true) (hd : dstOk o.dst N = true) (hx : opr s.E x = some (.val (.pointer (some ⟨r, 0, none⟩)))) (ho : s.m.obj r = some (.stringIter b pos))
    (hlt : ¬ pos < b.size) (h : K (s.put o.dst (.val (.tuple #[.bool false])))) : SemOp P N o s K := by
  refine sem_step hd fun a w lam hr => ?_
  have ex : a.eval x = .pointer (some ⟨r, 0, none⟩) := opr_ok hr hx
  have hw := hr.sat.obj r _ ho
  refine ⟨_, .tuple #[.bool false], w, s.m, ?_, .inl rfl, hr.sat, Frm.refl _ _, h⟩
  simp only [execOp, hop, ex, Instr.next, getObj, Sem.run_bind, Sem.run, hw, Result.andThen, hlt, if_false]
  simp [Sem.run]
end
end Go.FL
