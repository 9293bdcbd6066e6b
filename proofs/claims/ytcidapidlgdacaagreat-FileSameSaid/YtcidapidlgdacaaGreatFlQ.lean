/- The facts logic, part Q: private blocks that escape; stores into memory of our own. -/
import Derived.Test.YtcidapidlgdacaaGreatFlP
set_option linter.unusedVariables false
set_option linter.unusedSimpArgs false
namespace Go.FL

/-- private block k is now block b, for all to see -/
def SV.mat (k b : Nat) : SV → SV
  | .loc j off => if j = k then .val (.pointer (some ⟨b, off, none⟩)) else .loc j off
  | .lsl j n => if j = k then .val (.slice (some ⟨b, 0, none⟩) n n) else .lsl j n
  | .gd c s => .gd c (s.mat k b)
  | s => s
def matE (k b : Nat) : List (Nat × SV) → List (Nat × SV)
  | [] => []
  | (t, v) :: r => (t, v.mat k b) :: matE k b r
theorem SV.mat_conc {k b : Nat} {lam : Nat → Nat} (hb : lam k = b) : ∀ s : SV, (s.mat k b).conc lam = s.conc lam
  | .val _ => rfl
  | .loc j off => by
    unfold SV.mat; split
    · rename_i h; subst h; subst hb; rfl
    · rfl
  | .lsl j n => by
    unfold SV.mat; split
    · rename_i h; subst h; subst hb; rfl
    · rfl
  | .elt _ _ _ _ => rfl
  | .ptr _ _ => rfl
  | .gd c s => by simp only [SV.mat, SV.conc, SV.mat_conc hb s]
theorem SV.mat_ok {k b n : Nat} : ∀ {s : SV}, s.ok n → (s.mat k b).ok n
  | .val _, _ => trivial
  | .loc j off, h => by unfold SV.mat; split <;> first | trivial | exact h
  | .lsl j n, h => by unfold SV.mat; split <;> first | trivial | exact h
  | .elt _ _ _ _, _ => trivial
  | .ptr _ _, _ => trivial
  | .gd c s, h => SV.mat_ok (s := s) h
theorem look_mat {k b t : Nat} : ∀ {E : List (Nat × SV)} {sv : SV}, look (matE k b E) t = some sv → ∃ s0, look E t = some s0 ∧ sv = s0.mat k b
  | [], sv, h => by cases h
  | (u, v) :: r, sv, h => by
    simp only [matE, look] at h ⊢
    split at h
    · rename_i he; cases h; rw [if_pos he]; exact ⟨v, rfl, rfl⟩
    · rename_i he; rw [if_neg he]; exact look_mat h
section
variable {P : Program} {N : Nat} {s : St}
theorem Inv.mat {w0 : World} {m0 : Mem} {a : Act} {w : World} {lam : Nat → Nat} (hi : Inv w0 m0 N a w s lam) {k : Nat} {T : TypeId} {cs : List Value} (hk : s.L[k]? = some (some (T, cs))) :
    s.m.fresh (lam k) ∧ Inv w0 m0 N a w ⟨matE k (lam k) s.E, s.L.set k none, s.m.setRow (lam k) T cs cs.length⟩ lam := by
  have hal : s.al k := ⟨_, hk⟩
  have hf := hi.sep k hal
  have hkl : k < s.L.length := (List.getElem?_eq_some_iff.1 hk).1
  have hset : ∀ {j : Nat} {E : List (Nat × SV)} {m : Mem}, St.al ⟨E, s.L.set k none, m⟩ j → s.al j ∧ j ≠ k := by
    rintro j E m ⟨x, hx⟩
    have hx : (s.L.set k none)[j]? = some (some x) := hx
    by_cases he : k = j
    · subst he; rw [List.getElem?_set_self hkl] at hx; cases hx
    · rw [List.getElem?_set_ne he] at hx; exact ⟨⟨x, hx⟩, Ne.symm he⟩
  have hw := hi.loc k T cs hk
  refine ⟨hf, hi.defers, hi.size, fun t sv ht => ?_, fun t sv ht => ?_, fun j T' cs' hj => ?_, fun i j hi' hj' => hi.inj i j (hset hi').1 (hset hj').1, fun j hj => ?_, fun j hj => hi.old j (hset hj).1, ?_, ?_⟩
  · obtain ⟨s0, h1, rfl⟩ := look_mat ht
    rw [SV.mat_conc rfl]; exact hi.env t s0 h1
  · obtain ⟨s0, h1, rfl⟩ := look_mat ht
    simpa using SV.mat_ok (hi.ok t s0 h1)
  · have hj : (s.L.set k none)[j]? = some (some (T', cs')) := hj
    by_cases he : k = j
    · subst he; rw [List.getElem?_set_self hkl] at hj; cases hj
    · rw [List.getElem?_set_ne he] at hj; exact hi.loc j T' cs' hj
  · obtain ⟨h1, h2⟩ := hset hj
    have hne : lam j ≠ lam k := fun he => h2 (hi.inj j k h1 hal he)
    have := hi.sep j h1
    simpa [Mem.setRow, Mem.fresh, hne] using this
  · exact hi.sat.setRow (cur := cs.toArray) hw (by simp) (Nat.le_refl _) (by simp)
  · have hold := hi.old k hal
    have hfr := hi.frm
    refine ⟨hfr.os, hfr.tape, hfr.output, hfr.size, hfr.keep, fun b hb hx => ?_, fun b hb hx => ?_⟩
    · have hne : b ≠ lam k := by omega
      simp only [Mem.setRow, if_neg hne] at hx; exact hfr.new b hb hx
    · have hne : b ≠ lam k := by omega
      have := hfr.dom b hb hx
      simpa [Mem.setRow, Mem.fresh, hne] using this
theorem sem_mat {o : Oper} {K : St → Prop} (k : Nat) {T : TypeId} {cs : List Value} (hk : s.L[k]? = some (some (T, cs)))
    (h : ∀ b, s.m.fresh b → SemOp P N o ⟨matE k b s.E, s.L.set k none, s.m.setRow b T cs cs.length⟩ K) : SemOp P N o s K := by
  intro w0 m0 a w lam Q hi
  obtain ⟨hf, hi'⟩ := hi.mat hk
  have hal : s.al k := ⟨_, hk⟩
  refine Oper.wp_mono (fun a' w' ⟨s', lam', h1, h2, h3⟩ => ⟨s', lam', h1, h2, ?_⟩) (h (lam k) hf w0 m0 a w lam Q hi')
  have hkl : k < s.L.length := (List.getElem?_eq_some_iff.1 hk).1
  have hal' : ∀ {b : Nat}, (∀ j, s.al j → lam j ≠ b) → ∀ j, St.al ⟨matE k (lam k) s.E, s.L.set k none, s.m.setRow (lam k) T cs cs.length⟩ j → lam j ≠ b := by
    rintro b hb j ⟨x, hx⟩
    have hx : (s.L.set k none)[j]? = some (some x) := hx
    by_cases he : k = j
    · subst he; rw [List.getElem?_set_self hkl] at hx; cases hx
    · rw [List.getElem?_set_ne he] at hx; exact hb j ⟨x, hx⟩
  have hfr : ∀ {b : Nat}, s.m.fresh b → (∀ j, s.al j → lam j ≠ b) → (s.m.setRow (lam k) T cs cs.length).fresh b := by
    intro b hb hj
    have hne : b ≠ lam k := fun he => hj k hal he.symm
    simpa [Mem.setRow, Mem.fresh, hne] using hb
  refine ⟨fun j hj => h3.lamk j (by simpa using hj), h3.size, fun b hb hf' hj => h3.keep b hb (hfr hf' hj) (hal' hj), fun b hb hf' hj => h3.out b hb (hfr hf' hj) (hal' hj), h3.tmps⟩
theorem code_mat {c : Code} {K : Exit → St → Prop} (k : Nat) {T : TypeId} {cs : List Value} (hk : s.L[k]? = some (some (T, cs)))
    (h : ∀ b, s.m.fresh b → SemCode P N c K ⟨matE k b s.E, s.L.set k none, s.m.setRow b T cs cs.length⟩) : SemCode P N c K s := by
  intro w0 m0 a w lam hi
  obtain ⟨hf, hi'⟩ := hi.mat hk
  exact h (lam k) hf w0 m0 a w lam hi'
theorem fresh_setRow {m0 m : Mem} {b : Nat} (h0 : m0.le m) (hf : m.fresh b) (T : TypeId) (cs : List Value) (c : Nat) : m0.fresh b ∧ m0.le (m.setRow b T cs c) := by
  have h1 := h0.fresh hf
  refine ⟨h1, fun b' o v hv => ?_, fun b' x hx => ?_, fun b' x hx => ?_⟩
  · have hne : b' ≠ b := fun he => by subst he; rw [h1.1] at hv; cases hv
    simp only [Mem.setRow, if_neg hne]; exact h0.cell _ _ _ hv
  · have hne : b' ≠ b := fun he => by subst he; rw [h1.2.1] at hx; cases hx
    simp only [Mem.setRow, if_neg hne]; exact h0.own _ _ hx
  · have hne : b' ≠ b := fun he => by subst he; rw [h1.2.2] at hx; cases hx
    simp only [Mem.setRow, if_neg hne]; exact h0.obj _ _ hx
theorem le_setRow {m : Mem} {b : Nat} (hf : m.fresh b) (T : TypeId) (cs : List Value) (c : Nat) : m.le (m.setRow b T cs c) := (fresh_setRow (Mem.le.refl m) hf T cs c).2
/-- a private row that has escaped is a row of our own -/
theorem Own.mat {α : Type} {enc : α → List Value} {sz : Nat} {m0 m : Mem} {b : Nat} {T : TypeId} {l : List α} (hf : m0.fresh b) (he : ∀ x, (enc x).length = sz) (hl : l.length ≤ maxLen) :
    Own enc sz T m0 (m.setRow b T (l.flatMap enc) (l.flatMap enc).length) (.slice (some ⟨b, 0, none⟩) l.length l.length) l :=
  .inr ⟨b, l.length, rfl, hf, Nat.le_refl _, hl, by simp only [Mem.setRow, if_true, flatMap_len he], fun o u hu => by simp only [Mem.setRow, if_true]; exact hu⟩
end

/-! ### stores -/
section
variable {P : Program} {N : Nat} {s : St}
def mset (m : Mem) (b o : Nat) (vs : List Value) : Mem := ⟨fun b' o' => if b' = b then (if o ≤ o' ∧ o' < o + vs.length then vs[o' - o]? else m.cell b' o') else m.cell b' o', m.own, m.obj⟩
def addrOf : SV → Option (Nat × Nat)
  | .val (.pointer (some a)) => if a.spot.isNone then some (a.block, a.off) else none
  | .ptr (.pointer (some a)) off => some (a.block, a.off + off)
  | .elt (.slice (some a) _ _) i sz off => some (a.block, a.off + (i.toNat * sz + off))
  | _ => none
theorem addrOf_ok {sv : SV} {b o : Nat} (h : addrOf sv = some (b, o)) (lam : Nat → Nat) : sv.conc lam = .pointer (some ⟨b, o, none⟩) := by
  unfold addrOf at h
  split at h
  · rename_i a
    split at h
    · rename_i hs; cases h
      obtain ⟨ab, ao, asp⟩ := a
      simp at hs; subst hs; rfl
    · cases h
  · cases h; rfl
  · cases h; rfl
  · cases h
theorem overlay_get {cs vs : List Value} {o : Nat} (h : o + vs.length ≤ cs.length) (j : Nat) : (overlay cs o vs)[j]? = if o ≤ j ∧ j < o + vs.length then vs[j - o]? else cs[j]? := by
  have ht : (cs.take o).length = o := by rw [List.length_take]; omega
  unfold overlay
  rcases Nat.lt_or_ge j o with h1 | h1
  · rw [if_neg (by omega), List.append_assoc, List.getElem?_append_left (by rw [ht]; exact h1), List.getElem?_take_of_lt h1]
  · rcases Nat.lt_or_ge j (o + vs.length) with h2 | h2
    · rw [if_pos ⟨h1, h2⟩, List.append_assoc, List.getElem?_append_right (by rw [ht]; exact h1), ht, List.getElem?_append_left (by omega)]
    · have hl : (cs.take o ++ vs).length = o + vs.length := by rw [List.length_append, ht]
      rw [if_neg (by omega), List.getElem?_append_right (by rw [hl]; exact h2), hl, List.getElem?_drop, show o + vs.length + (j - (o + vs.length)) = j by omega]
theorem Sat.mset {w : World} {m : Mem} (h : Sat w m) {b o : Nat} {T : TypeId} {n c : Nat} {vs : List Value} {cur : Array Value} (ho : m.own b = some (T, n, c)) (hobj : m.obj b = none) (hle : o + vs.length ≤ n) (hb : w.heap[b]? = some (.cells cur T (0, 0))) :
    Sat (w.setRow b (overlay cur.toList o vs).toArray) (mset m b o vs) := by
  obtain ⟨⟨cs, h1, h2⟩, h3, h4⟩ := h.own b T n c ho
  rw [hb] at h1; cases h1
  have hoth : ∀ b', b' ≠ b → (w.setRow b (overlay cur.toList o vs).toArray).heap[b']? = w.heap[b']? := fun b' hne => by simp [World.setRow, Array.getElem?_modify, Ne.symm hne]
  have hself : (w.setRow b (overlay cur.toList o vs).toArray).heap[b]? = some (.cells (overlay cur.toList o vs).toArray T (0, 0)) := by simp [World.setRow, Array.getElem?_modify, hb]
  have hlen : (overlay cur.toList o vs).length = cur.size := by simp [overlay]; omega
  refine ⟨fun b' o' v hv => ?_, fun b' T' n' c' hv => ?_, fun b' x hv => ?_⟩
  · by_cases he : b' = b
    · subst he
      simp only [FL.mset, if_true] at hv
      simp only [World.cell?, hself]
      rw [List.getElem?_toArray, overlay_get (by simpa [h2] using (by omega : o + vs.length ≤ c))]
      split at hv
      · rename_i hin; rw [if_pos hin]; simpa using hv
      · rename_i hin
        have hc := h.cell b' o' v hv
        simp only [World.cell?, hb] at hc
        rw [if_neg hin]; simpa using hc
    · simp only [FL.mset, if_neg he] at hv
      have hc := h.cell b' o' v hv
      unfold World.cell? at hc ⊢
      rw [hoth b' he]; exact hc
  · have hv' : m.own b' = some (T', n', c') := hv
    have hk4 : ∀ o', n' ≤ o' → (FL.mset m b o vs).cell b' o' = none := by
      intro o' ho'
      by_cases he : b' = b
      · subst he
        rw [ho] at hv'; cases hv'
        simp only [FL.mset, if_true]
        rw [if_neg (by omega)]; exact h4 o' ho'
      · simp only [FL.mset, if_neg he]; exact (h.own b' T' n' c' hv').2.2 o' ho'
    by_cases he : b' = b
    · subst he
      rw [ho] at hv'; cases hv'
      exact ⟨⟨_, hself, by simp [hlen, h2]⟩, h3, hk4⟩
    · obtain ⟨⟨cs', k1, k2⟩, k3, k4⟩ := h.own b' T' n' c' hv'
      exact ⟨⟨cs', by rw [hoth b' he]; exact k1, k2⟩, k3, hk4⟩
  · have hne : b' ≠ b := fun he => by subst he; have hv' : m.obj b' = some x := hv; rw [hobj] at hv'; cases hv'
    rw [hoth b' hne]; exact h.obj b' x hv
theorem sem_store {o : Oper} {T : TypeId} {x y : Operand} {n : Nat} {ag : Bool} {sx : SV} {v : Value} {b off : Nat} {T' : TypeId} {ne c : Nat} {K : St → Prop}
    (hop : o.op = .store T x y) (hd : dstOk o.dst N = true) (ht : tinfo P T = some (n, ag)) (hx : opr s.E x = some sx) (hy : opr s.E y = some (.val v))
    (ha : addrOf sx = some (b, off)) (hown : s.m.own b = some (T', ne, c)) (hobj : s.m.obj b = none) (hn : v.cells.toList.length = n) (hone : v.cells.toList.all (·.oneCell') = true) (hle : off + n ≤ ne)
    (h : K ((St.mk s.E s.L (mset s.m b off v.cells.toList)).put o.dst (.val undef))) : SemOp P N o s K := by
  refine sem_step hd fun a w lam hr => ?_
  obtain ⟨i, d, hi', hsz, hd', _⟩ := tinfo_ok ht
  obtain ⟨⟨cur, h1, h2⟩, h3, h4⟩ := hr.sat.own b T' ne c hown
  have ex : a.eval x = .pointer (some ⟨b, off, none⟩) := by rw [opr_ok hr hx, addrOf_ok ha]
  have ey : a.eval y = v := opr_ok hr hy
  have hone' : ∀ u ∈ v.cells.toList, u.oneCell' = true := fun u hu => List.all_eq_true.1 hone u hu
  have hrun := run_storeCells_at (P := P) b off T' v.cells.toList 0 cur w h1 (by rw [hn]; omega) hone'
  have hexec : (execOp a.eval o).run P w = .ok .skip (w.setRow b (overlay cur.toList off v.cells.toList).toArray) := by
    have hns : ¬ (v.cells.size ≠ i.size) := by rw [hsz]; simpa using hn
    simp only [execOp, hop, ex, ey, Instr.storeAt, Instr.sureAddr, storeVar, Sem.run_bind, Sem.run_pure, Result.andThen_ok, run_sizeOf' hi', if_neg hns]
    rw [hrun]; simp [overlay, Result.andThen]
  refine ⟨.skip, undef, _, _, hexec, .inr ⟨rfl, rfl⟩, hr.sat.mset hown hobj (by rw [hn]; exact hle) h1, ?_, h⟩
  refine ⟨rfl, rfl, rfl, by simp [World.setRow], fun b' hb h1' _ => ?_, fun b' _ hx => hx, fun b' hb hf => ?_⟩
  · have hne : b ≠ b' := fun he => by subst he; rw [hown] at h1'; cases h1'
    simp [World.setRow, Array.getElem?_modify, hne]
  · have hne : b' ≠ b := fun he => by subst he; rw [hf.2.1] at hown; cases hown
    refine ⟨fun o' => ?_, hf.2.1, hf.2.2⟩
    simp only [FL.mset, if_neg hne]; exact hf.1 o'
end
attribute [go_sem] SV.mat matE addrOf Value.oneCell'
end Go.FL
