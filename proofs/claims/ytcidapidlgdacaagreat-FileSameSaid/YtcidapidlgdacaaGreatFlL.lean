/- The facts logic, part L: the rule for a region that draws its order. -/
import Derived.Test.YtcidapidlgdacaaGreatFlK
set_option linter.unusedVariables false
set_option linter.unusedSimpArgs false
namespace Go.FL
section
variable {P : Program} {N : Nat} {ops : Array Oper} {LS : List (Option (TypeId × List Value))} {mS : Mem}

/-- what the machine has listed: what the plan has, and the early allocations -/
structure Rel (ops : Array Oper) (LP listed : Array Bool) (D : List Ent) : Prop where
  s1 : LP.size = ops.size
  s2 : listed.size = ops.size
  get : ∀ j d, j < ops.size → (LP.getD j d = true ↔ (∃ e ∈ D, e.i = j) ∨ listed.getD j d = true)
theorem Rel.set {LP listed : Array Bool} {D : List Ent} (h : Rel ops LP listed D) (i : Nat) : Rel ops (LP.setIfInBounds i true) (listed.setIfInBounds i true) D := by
  refine ⟨by simpa using h.s1, by simpa using h.s2, fun j d hj => ?_⟩
  by_cases hij : i = j
  · subst hij; simp [h.s1, h.s2, hj]
  · rw [getD_set_ne d hij, getD_set_ne d hij]; exact h.get j d hj
theorem Rel.add {LP listed : Array Bool} {D : List Ent} (h : Rel ops LP listed D) (e : Ent) : Rel ops (LP.setIfInBounds e.i true) listed (e :: D) := by
  refine ⟨by simpa using h.s1, h.s2, fun j d hj => ?_⟩
  by_cases hij : e.i = j
  · subst hij; simp [h.s1, hj]
  · rw [getD_set_ne d hij, h.get j d hj]; simp [hij]
theorem ready_lt {md : Region.Mode} {listed : Array Bool} {j : Nat} (h : j ∈ Region.ready md ops listed) : j < ops.size := by
  unfold Region.ready at h
  exact List.mem_range.1 (List.mem_filter.1 h).1
theorem getD_lt {l : Array Bool} {j : Nat} (h : j < l.size) (d d' : Bool) : l.getD j d = l.getD j d' := by simp [h]

theorem chk_mem : ∀ {l : List (Nat × Nat)} {listed : Array Bool}, listed.size = ops.size → chk ops l listed = true → ∀ {j : Nat}, j ∈ Region.ready .any ops listed → allocAt ops j = true → ∃ k, (j, k) ∈ l
  | [], listed, hs, h, j, hj, ha => by
    simp only [chk, List.isEmpty_iff] at h; rw [h] at hj; cases hj
  | (i, k) :: l, listed, hs, h, j, hj, ha => by
    simp only [chk, Bool.and_eq_true] at h
    by_cases hij : j = i
    · subst hij; exact ⟨k, by simp⟩
    · obtain ⟨k', hk'⟩ := chk_mem (l := l) (listed := listed.setIfInBounds i true) (by simpa using hs) h.2 (ready_mono hj hij) ha
      exact ⟨k', by simp [hk']⟩
theorem chk_kind : ∀ {l : List (Nat × Nat)} {listed : Array Bool}, chk ops l listed = true → ∀ {j k : Nat}, (j, k) ∈ l → (allocAt ops j = true ↔ k = 2)
  | [], listed, h, j, k, hj => by cases hj
  | (i, k0) :: l, listed, h, j, k, hj => by
    simp only [chk, Bool.and_eq_true] at h
    rcases List.mem_cons.1 hj with he | he
    · obtain ⟨rfl, rfl⟩ := Prod.mk.inj he
      match k, h with
      | 0, h => simp only [Bool.and_eq_true, Bool.not_eq_true'] at h; simp [h.1.2.1.2]
      | 1, h => simp only [Bool.and_eq_true, Bool.not_eq_true'] at h; simp [h.1.2.1]
      | 2, h => simp only [Bool.and_eq_true] at h; simp [h.1.2.1]
      | 4, h => simp only [Bool.and_eq_true, Bool.not_eq_true'] at h; simp [h.1.2.2]
      | 3, h => simp only [Bool.and_eq_true, Bool.not_eq_true'] at h; simp [h.1.2.1]
      | 5, h => simp only [Bool.and_eq_true, Bool.not_eq_true'] at h; simp [h.1.2.1]
      | k + 6, h => simp only [Bool.and_eq_true, Bool.not_eq_true'] at h; simp [h.1.2.1]
    · exact chk_kind h.2 he
/-- what is in the plan is not listed -/
theorem chk_unl : ∀ {l : List (Nat × Nat)} {listed : Array Bool}, listed.size = ops.size → chk ops l listed = true → ∀ {j k : Nat}, (j, k) ∈ l → listed.getD j true = false ∧ j < ops.size
  | [], listed, hs, h, j, k, hj => by cases hj
  | (i, k0) :: l, listed, hs, h, j, k, hj => by
    simp only [chk, Bool.and_eq_true] at h
    have hi : i ∈ Region.ready .any ops listed := by simpa using h.1.1
    rcases List.mem_cons.1 hj with he | he
    · cases he; exact ⟨(mem_ready.1 hi).1, ready_lt hi⟩
    · obtain ⟨h1, h2⟩ := chk_unl (listed := listed.setIfInBounds i true) (by simpa using hs) h.2 he
      refine ⟨?_, h2⟩
      by_cases hij : i = j
      · subst hij; simp [hs, h2] at h1
      · rwa [getD_set_ne true hij] at h1

theorem mem_dstsOf : ∀ {l : List (Nat × Nat)} {i d : Nat}, (i, 2) ∈ l → ((ops[i]?).bind (·.dst)) = some d → d ∈ dstsOf ops l
  | [], i, d, h, _ => by cases h
  | (j, k) :: l, i, d, h, hd => by
    rcases List.mem_cons.1 h with he | he
    · cases he; simp [dstsOf, hd]
    · have := mem_dstsOf he hd
      unfold dstsOf
      split
      · split
        · exact List.mem_cons_of_mem _ this
        · exact this
      · exact this
theorem noE_mem {E : List (Nat × SV)} : ∀ {ds : List Nat}, noE E ds → ∀ {d : Nat}, d ∈ ds → look E d = none
  | [], _, d, h => by cases h
  | x :: r, hn, d, h => by
    rcases List.mem_cons.1 h with he | he
    · subst he; exact hn.1
    · exact noE_mem hn.2 he
theorem noE_of {E : List (Nat × SV)} : ∀ {ds : List Nat}, (∀ d ∈ ds, look E d = none) → noE E ds
  | [], _ => trivial
  | x :: r, h => ⟨h x (by simp), noE_of fun d hd => h d (by simp [hd])⟩
theorem dstsOf_mem : ∀ {l : List (Nat × Nat)} {d : Nat}, d ∈ dstsOf ops l → ∃ i, (i, 2) ∈ l ∧ ((ops[i]?).bind (·.dst)) = some d
  | [], d, h => by cases h
  | (j, k) :: l, d, h => by
    unfold dstsOf at h
    split at h
    · split at h
      · rename_i d' hd'
        rcases List.mem_cons.1 h with he | he
        · subst he; exact ⟨j, by simp, hd'⟩
        · obtain ⟨i, h1, h2⟩ := dstsOf_mem he; exact ⟨i, by simp [h1], h2⟩
      · obtain ⟨i, h1, h2⟩ := dstsOf_mem h; exact ⟨i, by simp [h1], h2⟩
    · obtain ⟨i, h1, h2⟩ := dstsOf_mem h; exact ⟨i, by simp [h1], h2⟩
theorem uniq_ne (hu : uniqAlloc ops = true) {i j d : Nat} {o o' : Oper} (hi : ops[i]? = some o) (ha : allocAt ops i = true) (hd : o.dst = some d) (hj : ops[j]? = some o') (hne : j ≠ i) : o'.dst ≠ some d := by
  unfold uniqAlloc at hu
  rw [List.all_eq_true] at hu
  have := hu i (List.mem_range.2 (Array.getElem?_eq_some_iff.1 hi).1)
  rw [ha] at this
  simp only [Bool.not_true, Bool.false_or, List.all_eq_true] at this
  have h2 := this j (List.mem_range.2 (Array.getElem?_eq_some_iff.1 hj).1)
  simp only [hi, hj, Option.bind_some, Bool.or_eq_true, beq_iff_eq, hne, false_or, bne_iff_ne, ne_eq, hd] at h2
  exact h2

/-- an allocation that comes up early: what is known stays known -/
theorem Inv.early {w0 : World} {m0 : Mem} {a : Act} {w : World} {s : St} {lam : Nat → Nat} (h : Inv w0 m0 N a w s lam) {d : Nat} (hd : look s.E d = none) (v : Value) (o : Obj) : Inv w0 m0 N (a.put (some d) v) (w.alloc o) s lam := by
  refine ⟨h.defers, by simpa [Act.put] using h.size, fun t sv ht => ?_, h.ok, fun k T cs hk => ?_, h.inj, h.sep, h.old, h.sat.alloc o, h.frm.trans (Frm.alloc _ _ _)⟩
  · have hne : d ≠ t := fun e => by subst e; rw [hd] at ht; cases ht
    rw [Act.put_other (by simpa using hne)]; exact h.env t sv ht
  · have hx := h.loc k T cs hk
    have : lam k < w.heap.size := (Array.getElem?_eq_some_iff.1 hx).1
    show (w.heap.push o)[lam k]? = _
    rw [Array.getElem?_push_lt this, ← hx]; simp [this]
theorem alloc_get {w : World} {o : Obj} {b : Nat} {x : Obj} (h : w.heap[b]? = some x) : (w.alloc o).heap[b]? = some x := by
  have : b < w.heap.size := (Array.getElem?_eq_some_iff.1 h).1
  show (w.heap.push o)[b]? = _
  rw [Array.getElem?_push_lt this, ← h]; simp [this]
/-- an early allocation's time has come -/
theorem Inv.late {w0 : World} {m0 : Mem} {a : Act} {w : World} {s : St} {lam : Nat → Nat} (h : Inv w0 m0 N a w s lam) {d b : Nat} {T : TypeId} {z : List Value}
    (ht : a.tmps.getD d undef = .pointer (some ⟨b, 0, none⟩)) (hb : w.heap[b]? = some (.cells z.toArray T (0, 0))) (hf : s.m.fresh b) (ho : w0.heap.size ≤ b) (hn : ∀ k, s.al k → lam k ≠ b) :
    ∃ lam', Inv w0 m0 N a w (FL.addLoc s (some d) T z fun k => .loc k 0) lam' ∧ (∀ k, k < s.L.length → lam' k = lam k) ∧ lam' s.L.length = b := by
  let lam' : Nat → Nat := fun k => if k = s.L.length then b else lam k
  have hsame : ∀ k, k < s.L.length → lam' k = lam k := fun k hk => by simp [lam']; omega
  refine ⟨lam', ⟨h.defers, h.size, fun t sv hs => ?_, fun t sv hs => ?_, fun k T' cs' hk => ?_, fun j k hj hk he => ?_, fun k hk => ?_, fun k hk => ?_, h.sat, h.frm⟩, hsame, by simp [lam']⟩
  · simp only [FL.addLoc, St.put, look] at hs
    split at hs
    · rename_i he; subst he; cases hs; simpa [SV.conc, lam'] using ht
    · rw [h.env t sv hs, SV.conc_congr hsame (h.ok t sv hs)]
  · simp only [FL.addLoc, St.put, look] at hs
    split at hs
    · cases hs; simp [FL.addLoc, St.put, SV.ok]
    · exact SV.ok_mono (by simp [FL.addLoc, St.put]) (h.ok t sv hs)
  · simp only [FL.addLoc, St.put] at hk
    rcases Nat.lt_trichotomy k s.L.length with hl | hl | hl
    · rw [List.getElem?_append_left hl] at hk
      rw [hsame k hl]; exact h.loc k T' cs' hk
    · subst hl; simp at hk; obtain ⟨rfl, rfl⟩ := hk
      simp only [lam', if_true]; exact hb
    · rw [List.getElem?_eq_none (by simp; omega)] at hk; cases hk
  · rcases St.al_snoc (s := s) hj with hj | rfl <;> rcases St.al_snoc (s := s) hk with hk | rfl
    · rw [hsame j (St.al_lt hj), hsame k (St.al_lt hk)] at he; exact h.inj j k hj hk he
    · rw [hsame j (St.al_lt hj)] at he; simp only [lam', if_true] at he
      exact absurd he (hn j hj)
    · rw [hsame k (St.al_lt hk)] at he; simp only [lam', if_true] at he
      exact absurd he.symm (hn k hk)
    · rfl
  · rcases St.al_snoc (s := s) hk with hk | rfl
    · rw [hsame k (St.al_lt hk)]; exact h.sep k hk
    · simp only [lam', if_true]; exact hf
  · rcases St.al_snoc (s := s) hk with hk | rfl
    · rw [hsame k (St.al_lt hk)]; exact h.old k hk
    · simp only [lam', if_true]; exact ho

theorem light_pure {E : List (Nat × SV)} {L : List (Option (TypeId × List Value))} {m : Mem} {op : Op} (hp : pureOp op = true) : lightS P ⟨E, L, m⟩ op = lightS P ⟨E, [], Mem.nil⟩ op := by
  cases op <;> first | rfl | (cases hp; done) | skip
  case slice T x lo hi mx => cases mx <;> simp only [lightS]
  case call c =>
    obtain ⟨callee, args, tys⟩ := c
    cases callee with
    | builtin b => cases b <;> simp only [lightS]
    | value f => simp only [lightS]
    | invoke r n => simp only [lightS]
/-- a light operation is one that may be taken first -/
theorem lightO_yields {w0 : World} {m0 : Mem} {a : Act} {w : World} {s : St} {lam lamS : Nat → Nat} {o : Oper} {K : St → Prop} (h : lightO P ops N LS mS o s K) (hi : Inv w0 m0 N a w s lam) (hl : ∀ k, k < LS.length → lam k = lamS k) :
    ∃ sv, sv.ok s.L.length ∧ YieldsIf P ops (SP (pureOp o.op) (SOK LS mS lamS)) o (sv.conc lam) a ∧ K (s.put o.dst sv) ∧ dstOk o.dst N = true := by
  obtain ⟨hd, h⟩ := h
  have hrun : ∀ {p : Prop} {sv : SV}, lightS P ⟨s.E, LS, mS⟩ o.op = some (p, sv) → p → ∀ w', SP (pureOp o.op) (SOK LS mS lamS) w' → (execOp a.eval o).run P w' = .ok (.value (sv.conc lam)) w' := by
    intro p sv hls hp w' hS
    rcases hS with hpu | hs
    · rw [light_pure hpu] at hls
      exact light_ok (s := ⟨s.E, [], Mem.nil⟩) ⟨hi.env, fun k T cs hk => (by cases hk), ⟨fun b o v hv => (by cases hv), fun b T n c hv => (by cases hv), fun b x hv => (by cases hv)⟩⟩ hls hp
    · exact light_ok (s := ⟨s.E, LS, mS⟩) ⟨hi.env, fun k T cs hk => by rw [hl k (List.getElem?_eq_some_iff.1 hk).1]; exact hs.2 k T cs hk, hs.1⟩ hls hp
  split at h
  · rename_i hg
    unfold lightD at h
    split at h
    · rename_i p sv hls
      exact ⟨sv, light_wf (s := ⟨s.E, LS, mS⟩) hi.ok hls, .inl ⟨wanted_none hg _, hrun hls h.1⟩, h.2, hd⟩
    · exact h.elim
  · rename_i j want hg
    split at h
    · rename_i g hgj
      split at h
      · rename_i b hb
        have hw := wanted_of (o := o) hi.env hg hgj hb
        unfold lightDG at h
        split at h
        · rename_i p sv hls
          have hok : sv.ok s.L.length := light_wf (s := ⟨s.E, LS, mS⟩) hi.ok hls
          refine ⟨.gd b sv, hok, ?_, h.2, hd⟩
          cases hc : b with
          | true => rw [hc] at h hw; exact .inl ⟨hw, fun w' hs => by simp only [SV.conc, if_true]; exact hrun hls (h.1 rfl) w' hs⟩
          | false => rw [hc] at hw; exact .inr ⟨hw, by simp [SV.conc]⟩
        · exact h.elim
      · exact h.elim
    · exact h.elim
theorem skipO_yields {w0 : World} {m0 : Mem} {a : Act} {w : World} {s : St} {lam : Nat → Nat} {o : Oper} {K : St → Prop} (S : World → Prop) (h : skipO ops N o s K) (hi : Inv w0 m0 N a w s lam) :
    ∃ sv, sv.ok s.L.length ∧ YieldsIf P ops (SP true S) o (sv.conc lam) a ∧ K (s.put o.dst sv) ∧ dstOk o.dst N = true := by
  obtain ⟨hd, h⟩ := h
  split at h
  · exact h.elim
  · rename_i j want hg
    split at h
    · rename_i g hgj
      split at h
      · rename_i b hb
        have hw := wanted_of (o := o) hi.env hg hgj hb
        rw [h.1] at hw
        exact ⟨.gd false (.val undef), trivial, .inr ⟨hw, by simp [SV.conc]⟩, h.2, hd⟩
      · exact h.elim
    · exact h.elim
end
end Go.FL
