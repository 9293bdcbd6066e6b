/- The facts logic, part A: what is known of memory (facts on blocks), when a world meets it, and the frame between two worlds. -/
import Derived.Orders
import Derived.OrdersHeld
import Derived.WalkKit
import Derived.Maps.AppendAt
import Derived.Laws.MakeOwn
set_option linter.unusedVariables false
set_option linter.unusedSimpArgs false
namespace Go.FL

/-- Facts: cells that are known; rows of our own (element type, extent that is known, all cells); other objects of our own. -/
structure Mem where
  cell : Nat → Nat → Option Value
  own : Nat → Option (TypeId × Nat × Nat)
  obj : Nat → Option Obj

def Mem.nil : Mem := ⟨fun _ _ => none, fun _ => none, fun _ => none⟩
def Mem.fresh (m : Mem) (b : Nat) : Prop := (∀ o, m.cell b o = none) ∧ m.own b = none ∧ m.obj b = none
/-- block b is the row cs (capacity c cells in all) -/
def Mem.setRow (m : Mem) (b : Nat) (T : TypeId) (cs : List Value) (c : Nat) : Mem :=
  ⟨fun b' o => if b' = b then cs[o]? else m.cell b' o, fun b' => if b' = b then some (T, cs.length, c) else m.own b', fun b' => if b' = b then none else m.obj b'⟩
def Mem.setCell (m : Mem) (b o : Nat) (v : Value) : Mem :=
  ⟨fun b' o' => if b' = b ∧ o' = o then some v else m.cell b' o', m.own, m.obj⟩
def Mem.setObj (m : Mem) (b : Nat) (x : Obj) : Mem :=
  ⟨fun b' o => if b' = b then none else m.cell b' o, fun b' => if b' = b then none else m.own b', fun b' => if b' = b then some x else m.obj b'⟩

structure Sat (w : World) (m : Mem) : Prop where
  cell : ∀ b o v, m.cell b o = some v → w.cell? ⟨b, o, none⟩ = some v
  own : ∀ b T n c, m.own b = some (T, n, c) → (∃ cs : Array Value, w.heap[b]? = some (.cells cs T (0, 0)) ∧ cs.size = c) ∧ n ≤ c ∧ ∀ o, n ≤ o → m.cell b o = none
  obj : ∀ b x, m.obj b = some x → w.heap[b]? = some x

theorem Sat.lt {w : World} {m : Mem} (h : Sat w m) {b : Nat} (hb : ¬ m.fresh b) : b < w.heap.size := by
  rcases Nat.lt_or_ge b w.heap.size with hlt | hge
  · exact hlt
  · exfalso; apply hb
    have hn : w.heap[b]? = none := Array.getElem?_eq_none hge
    refine ⟨fun o => ?_, ?_, ?_⟩
    · cases hc : m.cell b o with
      | none => rfl
      | some v => have := h.cell b o v hc; simp [World.cell?, hn] at this
    · cases hc : m.own b with
      | none => rfl
      | some x => obtain ⟨T, n, c⟩ := x; obtain ⟨⟨cs, h1, _⟩, _⟩ := h.own b T n c hc; rw [hn] at h1; cases h1
    · cases hc : m.obj b with
      | none => rfl
      | some x => have := h.obj b x hc; rw [hn] at this; cases this

theorem Sat.fresh_of_ge {w : World} {m : Mem} (h : Sat w m) {b : Nat} (hb : w.heap.size ≤ b) : m.fresh b := by
  by_cases hf : m.fresh b
  · exact hf
  · have := h.lt hf; omega

structure Frm (m m' : Mem) (w w' : World) : Prop where
  os : w'.os = w.os
  tape : w'.tape = w.tape
  output : w'.output = w.output
  size : w.heap.size ≤ w'.heap.size
  keep : ∀ b, b < w.heap.size → m.own b = none → m.obj b = none → w'.heap[b]? = w.heap[b]?
  new : ∀ b, b < w.heap.size → (m'.own b ≠ none ∨ m'.obj b ≠ none) → (m.own b ≠ none ∨ m.obj b ≠ none)
  dom : ∀ b, b < w.heap.size → m.fresh b → m'.fresh b

theorem Frm.refl (m : Mem) (w : World) : Frm m m w w := ⟨rfl, rfl, rfl, Nat.le_refl _, fun _ _ _ _ => rfl, fun _ _ h => h, fun _ _ h => h⟩
theorem Frm.trans {m m' m'' : Mem} {w w' w'' : World} (h : Frm m m' w w') (k : Frm m' m'' w' w'') : Frm m m'' w w'' := by
  refine ⟨k.os.trans h.os, k.tape.trans h.tape, k.output.trans h.output, Nat.le_trans h.size k.size, fun b hb h1 h2 => ?_, fun b hb h1 => ?_, fun b hb h1 => k.dom b (Nat.lt_of_lt_of_le hb h.size) (h.dom b hb h1)⟩
  · have hn : m'.own b = none ∧ m'.obj b = none := by
      constructor
      · cases hx : m'.own b with
        | none => rfl
        | some x => rcases h.new b hb (.inl (by rw [hx]; simp)) with h3 | h3 <;> contradiction
      · cases hx : m'.obj b with
        | none => rfl
        | some x => rcases h.new b hb (.inr (by rw [hx]; simp)) with h3 | h3 <;> contradiction
    rw [k.keep b (Nat.lt_of_lt_of_le hb h.size) hn.1 hn.2, h.keep b hb h1 h2]
  · exact h.new b hb (k.new b (Nat.lt_of_lt_of_le hb h.size) h1)
theorem Frm.drew (m : Mem) (w : World) (n : Nat) : Frm m m w { w with drawn := n } := ⟨rfl, rfl, rfl, Nat.le_refl _, fun _ _ _ _ => rfl, fun _ _ h => h, fun _ _ h => h⟩
/-- What is done to blocks that were not there at the start. -/
theorem Frm.trans' {m m' : Mem} {w w' w'' : World} (h : Frm m m' w w') (ho : w''.os = w'.os) (ht : w''.tape = w'.tape) (hp : w''.output = w'.output) (hs : w'.heap.size ≤ w''.heap.size)
    (hb : ∀ b, b < w.heap.size → w''.heap[b]? = w'.heap[b]?) : Frm m m' w w'' :=
  ⟨ho.trans h.os, ht.trans h.tape, hp.trans h.output, Nat.le_trans h.size hs, fun b hlt h1 h2 => by rw [hb b hlt, h.keep b hlt h1 h2], h.new, h.dom⟩
/-- Facts that were new may be let go. -/
theorem Frm.drop {m m' : Mem} {w w' : World} (h : Frm m m' w w') : Frm m m w w' := ⟨h.os, h.tape, h.output, h.size, h.keep, fun _ _ h => h, fun _ _ h => h⟩

theorem Sat.drew {w : World} {m : Mem} (h : Sat w m) (n : Nat) : Sat { w with drawn := n } m := ⟨h.cell, h.own, h.obj⟩

/-- A new block: nothing that is known turns. -/
theorem Sat.alloc {w : World} {m : Mem} (h : Sat w m) (o : Obj) : Sat (w.alloc o) m := by
  have hlt : ∀ {b : Nat} {x : Obj}, w.heap[b]? = some x → (w.alloc o).heap[b]? = some x := fun {b x} hb => by
    have : b < w.heap.size := (Array.getElem?_eq_some_iff.1 hb).1
    show (w.heap.push o)[b]? = some x
    rw [Array.getElem?_push_lt this, ← hb]; simp [this]
  refine ⟨fun b o' v hc => ?_, fun b T n c hc => ?_, fun b x hc => hlt (h.obj b x hc)⟩
  · have h1 := h.cell b o' v hc
    unfold World.cell? at h1 ⊢
    cases hx : w.heap[b]? with
    | none => simp [hx] at h1
    | some x => simp only [hx] at h1; simp only [hlt hx]; exact h1
  · obtain ⟨⟨cs, h1, h2⟩, h3⟩ := h.own b T n c hc
    exact ⟨⟨cs, hlt h1, h2⟩, h3⟩
theorem Frm.alloc (m : Mem) (w : World) (o : Obj) : Frm m m w (w.alloc o) :=
  ⟨rfl, rfl, rfl, by show w.heap.size ≤ (w.heap.push o).size; simp, fun b hb _ _ => by show (w.heap.push o)[b]? = _; rw [Array.getElem?_push_lt hb]; simp [hb], fun _ _ h => h, fun _ _ h => h⟩

theorem Sat.setRow {w : World} {m : Mem} (h : Sat w m) {b : Nat} {T : TypeId} {cs : List Value} {c : Nat} {cur : Array Value}
    (hb : w.heap[b]? = some (.cells cur T (0, 0))) (hc : cur.size = c) (hl : cs.length ≤ c) (hp : cur.toList.take cs.length = cs) : Sat w (m.setRow b T cs c) := by
  refine ⟨fun b' o v hv => ?_, fun b' T' n c' hv => ?_, fun b' x hv => ?_⟩
  · simp only [Mem.setRow] at hv
    split at hv
    · rename_i he; subst he
      simp only [World.cell?, hb]
      have ho : o < cs.length := (List.getElem?_eq_some_iff.1 hv).1
      rw [← hp, List.getElem?_take_of_lt ho] at hv
      simpa using hv
    · exact h.cell b' o v hv
  · simp only [Mem.setRow] at hv
    split at hv
    · rename_i he; subst he
      injection hv with hv; injection hv with h1 h2; injection h2 with h2 h3; subst h1; subst h2; subst h3
      refine ⟨⟨cur, hb, hc⟩, hl, fun o ho => ?_⟩
      simp only [Mem.setRow, if_true]
      exact List.getElem?_eq_none ho
    · rename_i he
      obtain ⟨h1, h2, h3⟩ := h.own b' T' n c' hv
      refine ⟨h1, h2, fun o ho => ?_⟩
      simp only [Mem.setRow, if_neg he]
      exact h3 o ho
  · simp only [Mem.setRow] at hv
    split at hv
    · cases hv
    · exact h.obj b' x hv

/-- A new row. -/
theorem Sat.newRow {w : World} {m : Mem} (h : Sat w m) (T : TypeId) (cs : Array Value) : Sat (w.alloc (.cells cs T)) (m.setRow w.heap.size T cs.toList cs.size) :=
  (h.alloc _).setRow (cur := cs) (by show (w.heap.push _)[w.heap.size]? = _; simp) rfl (by simp) (by rw [List.take_of_length_le (by simp)])
theorem Frm.newRow {m : Mem} {w : World} (h : Sat w m) (T : TypeId) (cs : Array Value) (l : List Value) (c : Nat) : Frm m (m.setRow w.heap.size T l c) w (w.alloc (.cells cs T)) := by
  have := Frm.alloc m w (.cells cs T)
  refine ⟨this.os, this.tape, this.output, this.size, this.keep, fun b hb h1 => ?_, fun b hb h1 => ?_⟩
  · have hne : b ≠ w.heap.size := by omega
    simpa [Mem.setRow, hne] using h1
  · have hne : b ≠ w.heap.size := by omega
    simpa [Mem.setRow, hne, Mem.fresh] using h1

theorem Sat.setCell {w : World} {m : Mem} (h : Sat w m) {b o : Nat} {T : TypeId} {n c : Nat} (ho : m.own b = some (T, n, c)) (hlt : o < n) (v : Value) (hobj : m.obj b = none) : Sat (w.setCell ⟨b, o, none⟩ v) (m.setCell b o v) := by
  obtain ⟨⟨cs, h1, h2⟩, h3, h4⟩ := h.own b T n c ho
  have hheap : ∀ b', (w.setCell ⟨b, o, none⟩ v).heap[b']? = if b' = b then some (.cells (cs.setIfInBounds o v) T (0, 0)) else w.heap[b']? := by
    intro b'
    simp only [World.setCell]
    rw [Array.getElem?_modify]
    by_cases he : b = b'
    · subst he; simp [h1]
    · have he' : b' ≠ b := Ne.symm he
      simp [he, he']
  refine ⟨fun b' o' v' hv => ?_, fun b' T' n' c' hv => ?_, fun b' x hv => ?_⟩
  · simp only [Mem.setCell] at hv
    split at hv
    · rename_i he; obtain ⟨rfl, rfl⟩ := he
      injection hv with hv; subst hv
      simp [World.cell?, hheap, Array.getElem?_setIfInBounds, show o' < cs.size by omega]
    · rename_i he
      have h5 := h.cell b' o' v' hv
      unfold World.cell? at h5 ⊢
      simp only [hheap]
      by_cases hb : b' = b
      · subst hb
        simp only [h1] at h5
        have hoo : o ≠ o' := fun e => he ⟨rfl, e.symm⟩
        simp only [if_true]
        simpa [Array.getElem?_setIfInBounds, hoo] using h5
      · simp only [if_neg hb]; exact h5
  · obtain ⟨⟨cs', k1, k2⟩, k3, k4⟩ := h.own b' T' n' c' hv
    have hk4 : ∀ o', n' ≤ o' → (m.setCell b o v).cell b' o' = none := by
      intro o' ho'
      simp only [Mem.setCell]
      split
      · rename_i he; obtain ⟨rfl, rfl⟩ := he
        have hv' : m.own b' = some (T', n', c') := hv
        rw [ho] at hv'; injection hv' with hv'; injection hv' with _ hv'; injection hv' with hv' _; omega
      · exact k4 o' ho'
    by_cases hb : b' = b
    · subst hb
      have hv' : m.own b' = some (T', n', c') := hv
      rw [ho] at hv'; injection hv' with hv'; injection hv' with e1 hv'; injection hv' with e2 e3; subst e1; subst e2; subst e3
      exact ⟨⟨cs.setIfInBounds o v, by simp [hheap], by simpa using h2⟩, k3, hk4⟩
    · exact ⟨⟨cs', by simp [hheap, hb, k1], k2⟩, k3, hk4⟩
  · have hb : b' ≠ b := fun e => by subst e; simp only [Mem.setCell] at hv; rw [hobj] at hv; cases hv
    rw [hheap, if_neg hb]; exact h.obj b' x hv
theorem Frm.setCell {m : Mem} {w : World} {b o : Nat} {x : TypeId × Nat × Nat} (ho : m.own b = some x) (v : Value) : Frm m (m.setCell b o v) w (w.setCell ⟨b, o, none⟩ v) := by
  refine ⟨rfl, rfl, rfl, by simp [World.setCell], fun b' hb h1 _ => ?_, fun _ _ h => h, fun b' hb h1 => ?_⟩
  case refine_2 =>
    have hne : b' ≠ b := fun e => by subst e; rw [h1.2.1] at ho; cases ho
    refine ⟨fun o' => ?_, h1.2.1, h1.2.2⟩
    simp only [Mem.setCell]; rw [if_neg (fun h => hne h.1)]; exact h1.1 o'
  have hne : b ≠ b' := fun e => by subst e; rw [ho] at h1; cases h1
  simp [World.setCell, Array.getElem?_modify, hne]

/-- What a call is known to do: from facts m it ends so, with such facts behind it; nothing else of the old memory turns. -/
def callable (P : Program) (f : FuncId) : Bool := match P.funcs[f]? with | some fn => fn.body.isSome && !(fn.name == "runtime.NumGoroutine") | none => false
def CC (P : Program) (f : FuncId) (args : List Value) (m : Mem) (R : Ending → Mem → Prop) : Prop := callable P f = true ∧
  ∀ w, Sat w m → Calls P f args.toArray w fun e w' => ∃ m', Sat w' m' ∧ Frm m m' w w' ∧ R e m'
theorem CC.mono {P : Program} {f : FuncId} {args : List Value} {m : Mem} {R R' : Ending → Mem → Prop} (h : CC P f args m R) (hr : ∀ e m', R e m' → R' e m') : CC P f args m R' :=
  ⟨h.1, fun w hw => (h.2 w hw).mono fun e w' ⟨m', h1, h2, h3⟩ => ⟨m', h1, h2, hr _ _ h3⟩⟩
/-- It returns r and leaves what is known as it is. -/
def Pure (P : Program) (f : FuncId) (args : List Value) (r : Value) : Prop := ∀ m, CC P f args m fun e m' => e = .returned r ∧ m' = m
end Go.FL
