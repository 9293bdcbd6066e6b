/- The facts logic, part M: the rule for a region that draws its order, proved. -/
import Derived.Test.YtcidapidlgdacaaGreatFlL
set_option linter.unusedVariables false
set_option linter.unusedSimpArgs false
namespace Go.FL
section
variable {P : Program} {N : Nat} {ops : Array Oper} {LS : List (Option (TypeId × List Value))} {mS : Mem}

def dstAll (ops : Array Oper) (N : Nat) : Bool := ops.all fun o => dstOk o.dst N
def zeroOk (P : Program) (ops : Array Oper) : Bool := ops.all fun o => match o.op with | .alloc T => (tzero P T).isSome | _ => true

structure Hyp (P : Program) (N : Nat) (ops : Array Oper) (LS : List (Option (TypeId × List Value))) (mS : Mem) (w0 : World) (m0 : Mem) (lamS : Nat → Nat) (l : List (Nat × Nat)) (listed LP : Array Bool) (D : List Ent) (s : St) (a : Act) (w : World) (lam : Nat → Nat) : Prop where
  chk : chk ops l listed = true
  rel : Rel ops LP listed D
  inv : Inv w0 m0 N a w s lam
  dok : DOk P ops l w0 D s a w lam
  rdy : ∀ e ∈ D, e.i ∈ Region.ready .any ops listed
  keep : keepS LS mS (dstsOf ops l) s
  lam : ∀ k, k < LS.length → lam k = lamS k

theorem Rel.unl {LP listed : Array Bool} {D : List Ent} (h : Rel ops LP listed D) {j : Nat} (hj : j < ops.size) (h1 : LP.getD j true = false) : listed.getD j true = false ∧ ∀ e ∈ D, e.i ≠ j := by
  have := h.get j true hj
  constructor
  · cases hx : listed.getD j true with
    | false => rfl
    | true => rw [this.2 (.inr hx)] at h1; cases h1
  · intro e he hej
    rw [this.2 (.inl ⟨e, he, hej⟩)] at h1; cases h1
theorem Rel.more {LP listed : Array Bool} {D : List Ent} (h : Rel ops LP listed D) (d : Bool) (j : Nat) (h1 : listed.getD j d = true) : LP.getD j d = true := by
  rcases Nat.lt_or_ge j ops.size with hl | hl
  · exact (h.get j d hl).2 (.inr h1)
  · rw [Array.getD_eq_getD_getElem?, Array.getElem?_eq_none (by rw [h.s1]; exact hl)]
    rw [Array.getD_eq_getD_getElem?, Array.getElem?_eq_none (by rw [h.s2]; exact hl)] at h1
    exact h1
/-- not listed by the plan, and not early: not listed -/
theorem Rel.un {LP listed : Array Bool} {D : List Ent} (h : Rel ops LP listed D) {j : Nat} (hj : j < ops.size) (h1 : listed.getD j true = false) (h2 : ∀ e ∈ D, e.i ≠ j) : LP.getD j true = false := by
  cases hx : LP.getD j true with
  | false => rfl
  | true =>
    rcases (h.get j true hj).1 hx with ⟨e, he, hej⟩ | h3
    · exact absurd hej (h2 e he)
    · rw [h1] at h3; cases h3
/-- what may come up on the machine while the plan is at i (hard, or an allocation not yet carried out): i, or an allocation of the plan that isn't early -/
theorem ready_cases {LP listed : Array Bool} {D : List Ent} {i k : Nat} {l : List (Nat × Nat)} (hc : chk ops ((i, k + 1) :: l) listed = true) (hr : Rel ops LP listed D) (hd : ∀ e ∈ D, e.i ∈ Region.ready .any ops listed ∧ allocAt ops e.i = true) (hni : ∀ e ∈ D, e.i ≠ i) (hk3 : k ≠ 3) {j : Nat} (hj : j ∈ Region.ready .any ops LP) :
    j = i ∨ (allocAt ops j = true ∧ j ∈ Region.ready .any ops listed ∧ ∀ e ∈ D, e.i ≠ j) := by
  have hjl := ready_lt hj
  obtain ⟨hu, hnD⟩ := hr.unl hjl (mem_ready.1 hj).1
  -- everything that is listed on the machine is listed behind all ready allocations (but i)
  have hmark : ∀ x d, LP.getD x d = true → (markAll listed (((Region.ready .any ops listed).filter (allocAt ops)).filter (fun j => j != i))).getD x d = true := by
    intro x d hx
    rcases Nat.lt_or_ge x ops.size with hl | hl
    · rcases (hr.get x d hl).1 hx with ⟨e, he, rfl⟩ | h3
      · exact markAll_in (List.mem_filter.2 ⟨List.mem_filter.2 (hd e he), by simpa using hni e he⟩) (by rw [hr.s2]; exact hl)
      · exact mem_markAll h3
    · rw [Array.getD_eq_getD_getElem?, Array.getElem?_eq_none (by rw [hr.s1]; exact hl)] at hx
      rw [Array.getD_eq_getD_getElem?, Array.getElem?_eq_none (by rw [markAll_size, hr.s2]; exact hl)]; exact hx
  by_cases hji : j = i
  · exact .inl hji
  by_cases hA : j ∈ (Region.ready .any ops listed).filter (allocAt ops)
  · obtain ⟨h1, h2⟩ := List.mem_filter.1 hA; exact .inr ⟨h2, h1, hnD⟩
  · have hA' : j ∉ ((Region.ready .any ops listed).filter (allocAt ops)).filter (fun j => j != i) := fun h => hA (List.mem_filter.1 h).1
    have hm : j ∈ Region.ready .any ops (markAll listed (((Region.ready .any ops listed).filter (allocAt ops)).filter (fun j => j != i))) :=
      ready_more (fun x hx => hmark x false hx) hj (by rw [markAll_get hA']; exact hu)
    simp only [chk, Bool.and_eq_true] at hc
    match k, hc with
    | 0, hc =>
      simp only [Bool.and_eq_true, Bool.not_eq_true', beq_iff_eq] at hc
      have hfi : ((Region.ready .any ops listed).filter (allocAt ops)).filter (fun j => j != i) = (Region.ready .any ops listed).filter (allocAt ops) := by
        rw [List.filter_eq_self]
        intro x hx
        have := (List.mem_filter.1 hx).2
        simp only [bne_iff_ne, ne_eq]
        intro he; subst he; rw [hc.1.2.1] at this; cases this
      rw [hfi, hc.1.2.2] at hm; left; simpa using hm
    | 1, hc =>
      simp only [Bool.and_eq_true, beq_iff_eq] at hc
      rw [hc.1.2.2] at hm; left; simpa using hm
    | 3, hc => exact absurd rfl hk3
    | 2, hc =>
      simp only [Bool.and_eq_true, Bool.not_eq_true', beq_iff_eq] at hc
      have hD : D = [] := by
        cases D with
        | nil => rfl
        | cons e r =>
          have := hd e (by simp)
          rw [hc.1.2.2] at this
          exact absurd (by simpa using this.1) (hni e (by simp))
      subst hD
      have hA0 : (Region.ready .any ops listed).filter (allocAt ops) = [] := by
        rw [hc.1.2.2]; simp [hc.1.2.1]
      rw [hA0] at hm
      have hm : j ∈ Region.ready .any ops listed := hm
      rw [hc.1.2.2] at hm; left; simpa using hm
    | 4, hc =>
      simp only [Bool.and_eq_true, Bool.not_eq_true', beq_iff_eq] at hc
      have hfi : ((Region.ready .any ops listed).filter (allocAt ops)).filter (fun j => j != i) = (Region.ready .any ops listed).filter (allocAt ops) := by
        rw [List.filter_eq_self]
        intro x hx
        have := (List.mem_filter.1 hx).2
        simp only [bne_iff_ne, ne_eq]
        intro he; subst he; rw [hc.1.2.1] at this; cases this
      rw [hfi, hc.1.2.2] at hm; left; simpa using hm
    | k + 5, hc =>
      simp only [Bool.and_eq_true, Bool.not_eq_true', beq_iff_eq] at hc
      have hD : D = [] := by
        cases D with
        | nil => rfl
        | cons e r =>
          have := hd e (by simp)
          rw [hc.1.2.2] at this
          exact absurd (by simpa using this.1) (hni e (by simp))
      subst hD
      have hA0 : (Region.ready .any ops listed).filter (allocAt ops) = [] := by
        rw [hc.1.2.2]; simp [hc.1.2.1]
      rw [hA0] at hm
      have hm : j ∈ Region.ready .any ops listed := hm
      rw [hc.1.2.2] at hm; left; simpa using hm

/-- an allocation of the plan comes up early -/
theorem Hyp.early {w0 : World} {m0 : Mem} {lamS : Nat → Nat} {l : List (Nat × Nat)} {listed LP : Array Bool} {D : List Ent} {s : St} {a : Act} {w : World} {lam : Nat → Nat}
    (h : Hyp P N ops LS mS w0 m0 lamS l listed LP D s a w lam) {j : Nat} (ha : allocAt ops j = true) (hr : j ∈ Region.ready .any ops listed) (hn : ∀ e ∈ D, e.i ≠ j) (hz : zeroOk P ops = true) (hu : uniqAlloc ops = true) (hN : dstAll ops N = true) :
    ∃ o d T z, ops[j]? = some o ∧ o.op = .alloc T ∧ o.dst = some d ∧ o.guard = none ∧ tzero P T = some z ∧
      Hyp P N ops LS mS w0 m0 lamS l listed (LP.setIfInBounds j true) (⟨j, d, w.heap.size, T, z⟩ :: D) s (a.put o.dst (.pointer (some ⟨w.heap.size, 0, none⟩))) (w.alloc (.cells z.toArray T)) lam := by
  obtain ⟨o, ho, hao⟩ := allocAt_spec ha
  obtain ⟨T, d, hop, hd, hg⟩ := isAlloc_spec hao
  have hzz : (tzero P T).isSome = true := by
    unfold zeroOk at hz
    have := Array.all_eq_true_iff_forall_mem.1 hz o (Array.mem_of_getElem? ho)
    simpa [hop] using this
  obtain ⟨z, hz⟩ := Option.isSome_iff_exists.1 hzz
  obtain ⟨k, hk⟩ := chk_mem h.rel.s2 h.chk hr ha
  have hk' : k = 2 := (chk_kind h.chk hk).1 ha
  subst hk'
  have hdn : look s.E d = none := noE_mem h.keep.2.2 (mem_dstsOf hk (by simp [ho, hd]))
  have hlamlt : ∀ k, s.al k → lam k < w.heap.size := fun k ⟨⟨T', cs'⟩, hx⟩ => (Array.getElem?_eq_some_iff.1 (h.inv.loc k T' cs' hx)).1
  refine ⟨o, d, T, z, ho, hop, hd, hg, hz, ⟨h.chk, h.rel.add ⟨j, d, w.heap.size, T, z⟩, by rw [hd]; exact h.inv.early hdn _ _, ⟨?_, ?_, ?_, ?_, ?_, ?_⟩, ?_, h.keep, h.lam⟩⟩
  · intro e he
    rcases List.mem_cons.1 he with rfl | he
    · exact hk
    · exact h.dok.plan e he
  · intro e he
    rcases List.mem_cons.1 he with rfl | he
    · exact ⟨o, ho, hop, hd, hg, hz⟩
    · exact h.dok.op e he
  · intro e he
    rcases List.mem_cons.1 he with rfl | he
    · have h1 := Array.all_eq_true_iff_forall_mem.1 hN o (Array.mem_of_getElem? ho)
      rw [hd] at h1
      have hlt : d < a.tmps.size := by rw [h.inv.size]; simpa [dstOk] using h1
      simp [hd, Act.put, hlt]
    · obtain ⟨o', ho', _, hd', _, _⟩ := h.dok.op e he
      have := uniq_ne hu ho ha hd ho' (hn e he)
      rw [Act.put_other (by rw [hd]; rw [hd'] at this; exact fun hx => this hx.symm)]
      exact h.dok.tmp e he
  · intro e he
    rcases List.mem_cons.1 he with rfl | he
    · show (w.heap.push _)[w.heap.size]? = _; simp
    · exact alloc_get (h.dok.blk e he)
  · intro e he
    rcases List.mem_cons.1 he with rfl | he
    · exact ⟨h.inv.sat.fresh_of_ge (Nat.le_refl _), h.inv.frm.size, fun k hk => by have := hlamlt k hk; show lam k ≠ w.heap.size; omega⟩
    · exact h.dok.free e he
  · refine List.pairwise_cons.2 ⟨fun e he => ⟨fun hx => hn e he hx.symm, fun hx => ?_⟩, h.dok.nod⟩
    have := (Array.getElem?_eq_some_iff.1 (h.dok.blk e he)).1
    have hx : w.heap.size = e.b := hx
    omega
  · intro e he
    rcases List.mem_cons.1 he with rfl | he
    · exact hr
    · exact h.rdy e he

theorem nodup_len {α : Type} [BEq α] [LawfulBEq α] : ∀ (D l : List α), D.Pairwise (· ≠ ·) → (∀ x ∈ D, x ∈ l) → D.length ≤ l.length
  | [], l, _, _ => Nat.zero_le _
  | x :: D, l, hp, hs => by
    obtain ⟨h1, h2⟩ := List.pairwise_cons.1 hp
    have hx := hs x (by simp)
    have := nodup_len D (l.erase x) h2 (fun y hy => (List.mem_erase_of_ne (Ne.symm (h1 y hy))).2 (hs y (by simp [hy])))
    rw [List.length_erase_of_mem hx] at this
    have hl : 0 < l.length := List.length_pos_of_mem hx
    simp only [List.length_cons]; omega
theorem D_len {D : List Ent} {l : List (Nat × Nat)} (hn : D.Pairwise fun e e' => e.i ≠ e'.i ∧ e.b ≠ e'.b) (hp : ∀ e ∈ D, (e.i, 2) ∈ l) : D.length ≤ l.length := by
  have := nodup_len (D.map fun e => (e.i, 2)) l (List.pairwise_map.2 (hn.imp fun h => by intro hx; exact h.1 (Prod.mk.inj hx).1)) (by intro x hx; obtain ⟨e, he, rfl⟩ := List.mem_map.1 hx; exact hp e he)
  simpa using this
theorem nextBar_mem : ∀ {l : List (Nat × Nat)} {b : Nat}, nextBar l = some b → (b, 3) ∈ l
  | [], b, h => by cases h
  | (i, k) :: l, b, h => by
    unfold nextBar at h
    split at h
    · rename_i h1; cases h1
    · rename_i h1; cases h1; cases h; simp
    · rename_i h1 h2; cases h2; exact List.mem_cons_of_mem _ (nextBar_mem h)
theorem wpO_dst {o : Oper} {s : St} {K : St → Prop} (h : wpO P ops N o s K) : dstOk o.dst N = true := h.1

theorem draw_ind {w0 : World} {m0 : Mem} {K : St → Prop} {Q : Act → World → Prop} (hQ : ∀ a w s lam, Inv w0 m0 N a w s lam → K s → Q a w)
    (hsel : Region.noSelect ops = true) (hu : uniqAlloc ops = true) (hz : zeroOk P ops = true) (hN : dstAll ops N = true) :
    ∀ (n fuel : Nat) (LS : List (Option (TypeId × List Value))) (mS : Mem) (lamS : Nat → Nat) (l : List (Nat × Nat)) (listed LP : Array Bool) (D : List Ent) (s : St) (a : Act) (w : World) (lam : Nat → Nat),
      2 * l.length = n + D.length → l.length ≤ fuel + D.length → (∀ i k, (i, k) ∈ l → k ≤ 5) → Hyp P N ops LS mS w0 m0 lamS l listed LP D s a w lam → wpD P ops N LS mS l K s →
      wpV P .any ops (NP Q) (SOK LS mS lamS) (fun j => nextBar l == some j) fuel LP a w := by
  intro n
  induction n using Nat.strongRecOn with
  | _ n ih =>
    intro fuel LS mS lamS l listed LP D s a w lam hn hfuel hk2 h hw
    have hS : SOK LS mS lamS w := SOK.of h.inv h.keep h.lam
    have hDal : ∀ e ∈ D, allocAt ops e.i = true := fun e he => (chk_kind h.chk (h.dok.plan e he)).2 rfl
    cases l with
    | nil =>
      have hD : D = [] := by
        cases D with
        | nil => rfl
        | cons e r => have := h.dok.plan e (by simp); cases this
      subst hD
      have hc := h.chk
      simp only [chk, List.isEmpty_iff] at hc
      have hr : Region.ready .any ops LP = [] := by
        rw [List.eq_nil_iff_forall_not_mem] at hc ⊢
        intro j hj
        refine hc j ?_
        rw [mem_ready] at hj ⊢
        obtain ⟨h0, o, ho, hall⟩ := hj
        have hjl : j < ops.size := (Array.getElem?_eq_some_iff.1 ho).1
        refine ⟨(h.rel.unl hjl h0).1, o, ho, fun e he hb => ?_⟩
        have h5 := hall e he hb
        rcases Nat.lt_or_ge e.on ops.size with hl | hl
        · rcases (h.rel.get e.on false hl).1 h5 with ⟨x, hx, _⟩ | h6
          · cases hx
          · exact h6
        · rw [Array.getD_eq_getD_getElem?, Array.getElem?_eq_none (by rw [h.rel.s1]; exact hl)] at h5; cases h5
      exact wpV_done hr (hQ a w s lam h.inv hw) fuel
    | cons x l =>
      obtain ⟨i, k⟩ := x
      have hc := h.chk
      have hc0 := hc
      simp only [chk, Bool.and_eq_true] at hc
      have hir : i ∈ Region.ready .any ops listed := by simpa using hc.1.1
      have hil := ready_lt hir
      have hc' : chk ops l (listed.setIfInBounds i true) = true := hc.2
      have hw0 := hw
      simp only [wpD] at hw
      obtain ⟨o, ho⟩ : ∃ o, ops[i]? = some o := ⟨_, Array.getElem?_eq_getElem hil⟩
      rw [ho] at hw
      have hk2' : ∀ i k, (i, k) ∈ l → k ≤ 5 := fun i k hx => hk2 i k (by simp [hx])
      simp only [List.length_cons] at hn hfuel
      have lightStep : ∀ pu : Bool, Region.free .any ops listed i = true → allocAt ops i = false → (∀ b, nextBar l = some b → waitsFor ops b i = true ∨ pu = true) →
          (fun j => nextBar ((i, k) :: l) == some j) = (fun j => nextBar l == some j) →
          (∃ sv, sv.ok s.L.length ∧ YieldsIf P ops (SP pu (SOK LS mS lamS)) o (sv.conc lam) a ∧ wpD P ops N LS mS l K (s.put o.dst sv) ∧ dstOk o.dst N = true) →
          wpV P .any ops (NP Q) (SOK LS mS lamS) (fun j => nextBar ((i, k) :: l) == some j) fuel LP a w := by
        rintro pu hfree hna hbar hBeq ⟨sv, hsv, hy, hK, hd⟩
        have hni : ∀ e ∈ D, e.i ≠ i := fun e he hx => by have := hDal e he; rw [hx, hna] at this; cases this
        have hplan : ∀ e ∈ D, (e.i, 2) ∈ l := fun e he => by
          rcases List.mem_cons.1 (h.dok.plan e he) with hx | hx
          · exact absurd (Prod.mk.inj hx).1 (hni e he)
          · exact hx
        have hDl : D.length ≤ l.length := D_len h.dok.nod hplan
        obtain ⟨f, rfl⟩ : ∃ f, fuel = f + 1 := ⟨fuel - 1, by omega⟩
        have hrLP : i ∈ Region.ready .any ops LP := ready_more (fun j hj => h.rel.more false j hj) hir (h.rel.un hil (mem_ready.1 hir).1 hni)
        rw [hBeq]
        refine wpV_take (oi := o) (pu := pu) ho hsel (free_more (fun j hj => h.rel.more true j hj) hfree) hrLP (fun _ _ _ hx => hx) ?_ hy hS ?_
        · intro j oj hoj hb
          have hb : nextBar l = some j := by simpa using hb
          rcases hbar j hb with h1 | h1
          · right
            simp only [waitsFor, hoj] at h1
            obtain ⟨e, he, h2⟩ := Array.any_eq_true'.1 h1
            simp only [Bool.and_eq_true, beq_iff_eq] at h2
            exact ⟨e, he, h2.1, h2.2⟩
          · exact .inl h1
        refine ih (2 * l.length - D.length) (by omega) f LS mS lamS l (listed.setIfInBounds i true) _ D _ _ _ lam (by omega) (by omega) hk2' ⟨hc', h.rel.set i, h.inv.put hd hsv, ⟨hplan, h.dok.op, ?_, h.dok.blk, ?_, h.dok.nod⟩, ?_, ?_, h.lam⟩ hK
        · intro e he
          obtain ⟨o', ho', _, hd', _, _⟩ := h.dok.op e he
          have := uniq_ne hu ho' (hDal e he) hd' ho (fun hx => hni e he hx.symm)
          rw [Act.put_other this]; exact h.dok.tmp e he
        · intro e he; rw [St.put_m]; obtain ⟨h1, h2, h3⟩ := h.dok.free e he; exact ⟨h1, h2, fun k hk => h3 k (St.al_of (St.put_L _ _ _) hk)⟩
        · intro e he
          exact ready_mono (h.rdy e he) (hni e he)
        · obtain ⟨h1, h2, h3⟩ := h.keep
          refine ⟨by rw [St.put_L]; exact h1, by rw [St.put_m]; exact h2, noE_of fun d hd' => ?_⟩
          obtain ⟨j, hj1, hj2⟩ := dstsOf_mem hd'
          have h0 := noE_mem h3 (mem_dstsOf (l := (i, k) :: l) (by simp [hj1]) hj2)
          obtain ⟨oj, hoj, hdj⟩ := Option.bind_eq_some_iff.1 hj2
          have haj : allocAt ops j = true := (chk_kind hc' hj1).2 rfl
          have hne : o.dst ≠ some d := uniq_ne hu hoj haj hdj ho (fun hx => by subst hx; rw [hna] at haj; cases haj)
          cases hod : o.dst with
          | none => exact h0
          | some d' =>
            have : d' ≠ d := fun e => hne (by rw [hod, e])
            simp only [St.put, look, if_neg this]; exact h0
      cases k with
      | zero =>
        simp only [Bool.and_eq_true, Bool.not_eq_true'] at hc
        refine lightStep (pureOp o.op) hc.1.2.1.1 hc.1.2.1.2 (fun b hb => ?_) rfl (lightO_yields hw h.inv h.lam)
        have hbar := hc.1.2.2
        rw [hb] at hbar
        simpa only [barOk, pureAt, ho, Bool.or_eq_true] using hbar
      | succ k =>
        by_cases hk4 : k = 3
        · subst hk4
          simp only [Bool.and_eq_true, Bool.not_eq_true'] at hc
          exact lightStep true hc.1.2.1 hc.1.2.2 (fun b hb => .inr rfl) rfl (skipO_yields _ hw h.inv)
        by_cases hk3 : k = 2
        · subst hk3
          -- what was read is read: all is looked at anew
          have hwO : wpO P ops N o s (fun s' => noE s'.E (dstsOf ops l) ∧ wpD P ops N s'.L s'.m l K s') := hw
          simp only [Bool.and_eq_true, Bool.not_eq_true', beq_iff_eq] at hc
          obtain ⟨hAi, hRi⟩ := hc.1.2
          have hD : D = [] := by
            cases D with
            | nil => rfl
            | cons e r =>
              have h1 := h.rdy e (by simp)
              have h2 := hDal e (by simp)
              rw [hRi] at h1
              have h1 : e.i = i := by simpa using h1
              rw [h1, hAi] at h2; cases h2
          subst hD
          obtain ⟨f, rfl⟩ : ∃ f, fuel = f + 1 := ⟨fuel - 1, by simp only [List.length_nil] at hfuel; omega⟩
          simp only [List.length_nil, Nat.add_zero] at hn hfuel
          have hrLP : i ∈ Region.ready .any ops LP := ready_more (fun j hj => h.rel.more false j hj) hir (h.rel.un hil (mem_ready.1 hir).1 (fun e he => (by cases he)))
          refine ⟨fun h0 => (by rw [h0] at hrLP; cases hrLP), fun j hj => ?_⟩
          rcases ready_cases hc0 h.rel (fun e he => (by cases he)) (fun e he => (by cases he)) (by omega) hj with rfl | ⟨haj, hjr, _⟩
          · have hstep := wpO_step hwO h.inv (NP Q)
            have hgo : ∀ a' w', After w0 m0 N (fun s' => noE s'.E (dstsOf ops l) ∧ wpD P ops N s'.L s'.m l K s') s lam o.dst a w a' w' →
                ((nextBar ((j, 3) :: l) == some j) = true → wpAny P .any ops (NP Q) f (LP.setIfInBounds j true) a' w') ∧ ((nextBar ((j, 3) :: l) == some j) = false → SOK LS mS lamS w' ∧ wpV P .any ops (NP Q) (SOK LS mS lamS) (fun x => nextBar ((j, 3) :: l) == some x) f (LP.setIfInBounds j true) a' w') := by
              rintro a' w' ⟨s', lam', hi', ⟨hno, hK⟩, hfr⟩
              refine ⟨fun _ => ?_, fun hb => by simp [nextBar] at hb⟩
              exact wpV_any _ _ _ _ (ih (2 * l.length) (by omega) f s'.L s'.m lam' l (listed.setIfInBounds j true) _ [] s' a' w' lam' (by simp) (by simp only [List.length_nil]; omega) hk2' ⟨hc', h.rel.set j, hi', ⟨fun e he => (by cases he), fun e he => (by cases he), fun e he => (by cases he), fun e he => (by cases he), fun e he => (by cases he), List.Pairwise.nil⟩, fun e he => (by cases he), ⟨covL_self _, Mem.le.refl _, hno⟩, fun _ _ => rfl⟩ hK)
            unfold wpOp
            simp only [ho]
            split at hstep
            · rename_i hwant; rw [if_pos hwant]; exact .inl (Oper.wp_mono hgo hstep)
            · rename_i hwant; rw [if_neg hwant]; exact hgo _ _ hstep
          · rw [hRi] at hjr
            have hjr : j = i := by simpa using hjr
            rw [hjr, hAi] at haj; cases haj
        by_cases hk5 : k = 4
        · subst hk5
          have hwO : wpO P ops N o s (fun s' => keepS LS mS (dstsOf ops l) s' ∧ wpD P ops N s'.L s'.m l K s') := hw
          have hBeq : (fun j => nextBar ((i, 4 + 1) :: l) == some j) = (fun j => nextBar l == some j) := rfl
          have hna : allocAt ops i = false := by
            have h9 := hc.1.2
            simp only [Bool.and_eq_true, Bool.not_eq_true'] at h9; exact h9.1
          have hni : ∀ e ∈ D, e.i ≠ i := fun e he hx => by have := hDal e he; rw [hx, hna] at this; cases this
          have hplan : ∀ e ∈ D, (e.i, 2) ∈ l := fun e he => by
            rcases List.mem_cons.1 (h.dok.plan e he) with hx | hx
            · exact absurd (Prod.mk.inj hx).1 (hni e he)
            · exact hx
          have hDl : D.length ≤ l.length := D_len h.dok.nod hplan
          obtain ⟨f, rfl⟩ : ∃ f, fuel = f + 1 := ⟨fuel - 1, by omega⟩
          have hrLP : i ∈ Region.ready .any ops LP := ready_more (fun j hj => h.rel.more false j hj) hir (h.rel.un hil (mem_ready.1 hir).1 hni)
          refine ⟨fun h0 => (by rw [h0] at hrLP; cases hrLP), fun j hj => ?_⟩
          rcases ready_cases hc0 h.rel (fun e he => ⟨h.rdy e he, hDal e he⟩) hni (by omega) hj with rfl | ⟨haj, hjr, hjD⟩
          · have hstep := wpO_step hwO h.inv (NP Q)
            have hnb : (nextBar ((j, 4 + 1) :: l) == some j) = false := by
              have := congrFun hBeq j
              rw [this]
              cases hb : nextBar l with
              | none => rfl
              | some b =>
                have hbm := nextBar_mem hb
                have h1 := (chk_unl (by simpa using h.rel.s2) hc' hbm).1
                have hne : b ≠ j := fun he => by subst he; simp [h.rel.s2, hil] at h1
                simpa using hne
            have hgo : ∀ a' w', After w0 m0 N (fun s' => keepS LS mS (dstsOf ops l) s' ∧ wpD P ops N s'.L s'.m l K s') s lam o.dst a w a' w' →
                ((nextBar ((j, 4 + 1) :: l) == some j) = true → wpAny P .any ops (NP Q) f (LP.setIfInBounds j true) a' w') ∧ ((nextBar ((j, 4 + 1) :: l) == some j) = false → SOK LS mS lamS w' ∧ wpV P .any ops (NP Q) (SOK LS mS lamS) (fun x => nextBar ((j, 4 + 1) :: l) == some x) f (LP.setIfInBounds j true) a' w') := by
              rintro a' w' ⟨s', lam', hi', ⟨hkeep, hK⟩, hfr⟩
              refine ⟨fun hb => (by rw [hnb] at hb; cases hb), fun _ => ?_⟩
              have hlam' : ∀ k, k < LS.length → lam' k = lamS k := fun k hk => by
                obtain ⟨hr, _, _⟩ := h.keep; have hr := covL_len hr
                rw [hfr.lamk k (by omega)]; exact h.lam k hk
              refine ⟨SOK.of hi' hkeep hlam', ?_⟩
              have hSS : ∀ w, SOK s'.L s'.m lam' w → SOK LS mS lamS w := fun w hw => ⟨hw.1.le hkeep.2.1, fun k T cs hk => by rw [← hlam' k (List.getElem?_eq_some_iff.1 hk).1]; exact hw.2 k T cs (covL_get hkeep.1 hk)⟩
              refine wpV_mono hSS _ _ _ _ ?_
              rw [hBeq]
              refine ih (2 * l.length - D.length) (by omega) f s'.L s'.m lam' l (listed.setIfInBounds j true) _ D s' a' w' lam' (by omega) (by omega) hk2' ⟨hc', h.rel.set j, hi', ⟨hplan, h.dok.op, ?_, ?_, ?_, h.dok.nod⟩, fun e he => ready_mono (h.rdy e he) (hni e he), ⟨covL_self _, Mem.le.refl _, hkeep.2.2⟩, fun _ _ => rfl⟩ hK
              · intro e he
                obtain ⟨o', ho', _, hd', _, _⟩ := h.dok.op e he
                have := uniq_ne hu ho' (hDal e he) hd' ho (fun hx => hni e he hx.symm)
                rw [hfr.tmps _ this]; exact h.dok.tmp e he
              · intro e he
                obtain ⟨h1, _, h3⟩ := h.dok.free e he
                have hb := h.dok.blk e he
                rw [hfr.keep e.b (Array.getElem?_eq_some_iff.1 hb).1 h1 h3]; exact hb
              · intro e he
                obtain ⟨h1, h2, h3⟩ := h.dok.free e he
                have hb := h.dok.blk e he
                obtain ⟨h4, h5⟩ := hfr.out e.b (Array.getElem?_eq_some_iff.1 hb).1 h1 h3
                exact ⟨h4, h2, h5⟩
            unfold wpOp
            simp only [ho]
            split at hstep
            · rename_i hwant; rw [if_pos hwant]; exact .inl (Oper.wp_mono hgo hstep)
            · rename_i hwant; rw [if_neg hwant]; exact hgo _ _ hstep
          · -- an allocation ahead of its time
            obtain ⟨oj, d, T, z, hoj, hop, hd, hg, hzz, hH⟩ := h.early haj hjr hjD hz hu hN
            have hnb : (nextBar ((i, 4 + 1) :: l) == some j) = false := by
              cases hb : nextBar ((i, 4 + 1) :: l) with
              | none => rfl
              | some b =>
                have h1 := chk_kind h.chk (nextBar_mem hb)
                have hne : b ≠ j := fun he => by subst he; have := h1.1 haj; omega
                simpa using hne
            unfold wpOp
            simp only [hoj]
            rw [if_pos (wanted_none hg _)]
            refine .inl ?_
            unfold Oper.wp
            rw [alloc_run hop hzz]
            refine ⟨fun hb => (by rw [hnb] at hb; cases hb), fun _ => ⟨hS.alloc _, ?_⟩⟩
            exact ih (n - 1) (by omega) f LS mS lamS _ listed _ _ s _ _ lam (by simp only [List.length_cons]; omega) (by simp only [List.length_cons]; omega) hk2 hH hw0
        have hk01 : k = 0 ∨ k = 1 := by have := hk2 i (k + 1) (by simp); omega
        have hwO : wpO P ops N o s (andK (keepS LS mS (dstsOf ops l)) (wpD P ops N LS mS l K)) := by rcases hk01 with rfl | rfl <;> exact hw
        have hBeq : (fun j => nextBar ((i, k + 1) :: l) == some j) = (fun j => nextBar l == some j) := by rcases hk01 with rfl | rfl <;> rfl
        by_cases hearly : ∃ e ∈ D, e.i = i
        · -- it has come up already
          obtain ⟨e, he, rfl⟩ := hearly
          obtain ⟨o', ho', hop, hd', hg, hzz⟩ := h.dok.op e he
          rw [ho] at ho'; cases ho'
          have hK : keepS LS mS (dstsOf ops l) (FL.addLoc s (some e.d) e.T e.z fun k => .loc k 0) ∧ wpD P ops N LS mS l K (FL.addLoc s (some e.d) e.T e.z fun k => .loc k 0) := by
            obtain ⟨_, hw2⟩ := hwO
            rw [hg] at hw2
            simp only [wpX, lightS, hop, wpH, hzz, hd'] at hw2
            exact hw2
          obtain ⟨D1, D2, rfl⟩ := List.append_of_mem he
          have hnod := h.dok.nod
          have hmem : ∀ x ∈ D1 ++ D2, x ∈ D1 ++ e :: D2 := fun x hx => by
            rcases List.mem_append.1 hx with hx | hx
            · exact List.mem_append_left _ hx
            · exact List.mem_append_right _ (List.mem_cons_of_mem _ hx)
          have hne : ∀ x ∈ D1 ++ D2, x.i ≠ e.i ∧ x.b ≠ e.b := by
            intro x hx
            rw [List.pairwise_append] at hnod
            obtain ⟨_, h2, h3⟩ := hnod
            obtain ⟨h4, _⟩ := List.pairwise_cons.1 h2
            rcases List.mem_append.1 hx with hx | hx
            · exact h3 x hx e (by simp)
            · exact ⟨fun hh => (h4 x hx).1 hh.symm, fun hh => (h4 x hx).2 hh.symm⟩
          obtain ⟨hf1, hf2, hf3⟩ := h.dok.free e he
          obtain ⟨lam', hi', hsame, hlast⟩ := h.inv.late (h.dok.tmp e he) (h.dok.blk e he) hf1 hf2 hf3
          have hDl := D_len h.dok.nod h.dok.plan
          simp only [List.length_append, List.length_cons] at hn hfuel hDl
          rw [hBeq]
          refine ih (n - 1) (by omega) fuel LS mS lamS l (listed.setIfInBounds e.i true) LP (D1 ++ D2) _ a w lam' (by simp only [List.length_append]; omega) (by simp only [List.length_append]; omega) hk2' ⟨hc', ⟨h.rel.s1, by simpa using h.rel.s2, fun j d hj => ?_⟩, hi', ⟨fun x hx => ?_, fun x hx => h.dok.op x (hmem x hx), fun x hx => h.dok.tmp x (hmem x hx), fun x hx => h.dok.blk x (hmem x hx), fun x hx => ?_, ?_⟩, fun x hx => ready_mono (h.rdy x (hmem x hx)) (hne x hx).1, hK.1, fun k hk => ?_⟩ hK.2
          · rw [h.rel.get j d hj]
            by_cases hij : e.i = j
            · subst hij; exact ⟨fun _ => .inr (by simp [h.rel.s2, hj]), fun _ => .inl ⟨e, by simp, rfl⟩⟩
            · rw [getD_set_ne d hij]
              constructor
              · rintro (⟨x, hx, hxj⟩ | hx)
                · left; refine ⟨x, ?_, hxj⟩
                  rcases List.mem_append.1 hx with hx | hx
                  · exact List.mem_append_left _ hx
                  · rcases List.mem_cons.1 hx with rfl | hx
                    · exact absurd hxj hij
                    · exact List.mem_append_right _ hx
                · exact .inr hx
              · rintro (⟨x, hx, hxj⟩ | hx)
                · exact .inl ⟨x, hmem x hx, hxj⟩
                · exact .inr hx
          · rcases List.mem_cons.1 (h.dok.plan x (hmem x hx)) with hy | hy
            · exact absurd (Prod.mk.inj hy).1 (hne x hx).1
            · exact hy
          · obtain ⟨h1, h2, h3⟩ := h.dok.free x (hmem x hx)
            refine ⟨h1, h2, fun k hk => ?_⟩
            rcases St.al_snoc (s := s) hk with hk | rfl
            · rw [hsame k (St.al_lt hk)]; exact h3 k hk
            · rw [hlast]; exact (hne x hx).2.symm
          · rw [List.pairwise_append] at hnod ⊢
            obtain ⟨h1, h2, h3⟩ := hnod
            exact ⟨h1, (List.pairwise_cons.1 h2).2, fun x hx y hy => h3 x hx y (by simp [hy])⟩
          · obtain ⟨hr, _, _⟩ := h.keep; have hr := covL_len hr
            rw [hsame k (by omega)]; exact h.lam k hk
        · have hni : ∀ e ∈ D, e.i ≠ i := fun e he hx => hearly ⟨e, he, hx⟩
          have hplan : ∀ e ∈ D, (e.i, 2) ∈ l := fun e he => by
            rcases List.mem_cons.1 (h.dok.plan e he) with hx | hx
            · cases hx; exact absurd rfl (hni e he)
            · exact hx
          have hDl : D.length ≤ l.length := D_len h.dok.nod hplan
          obtain ⟨f, rfl⟩ : ∃ f, fuel = f + 1 := ⟨fuel - 1, by omega⟩
          have hrLP : i ∈ Region.ready .any ops LP := ready_more (fun j hj => h.rel.more false j hj) hir (h.rel.un hil (mem_ready.1 hir).1 hni)
          refine ⟨fun h0 => (by rw [h0] at hrLP; cases hrLP), fun j hj => ?_⟩
          rcases ready_cases hc0 h.rel (fun e he => ⟨h.rdy e he, hDal e he⟩) hni (by omega) hj with rfl | ⟨haj, hjr, hjD⟩
          · -- its turn
            have hstep := wpO_step hwO h.inv (NP Q)
            have hnb : (nextBar ((j, k + 1) :: l) == some j) = false := by
              have := congrFun hBeq j
              rw [this]
              cases hb : nextBar l with
              | none => rfl
              | some b =>
                have hbm := nextBar_mem hb
                have h1 := (chk_unl (by simpa using h.rel.s2) hc' hbm).1
                have hne : b ≠ j := fun he => by subst he; simp [h.rel.s2, hil] at h1
                simpa using hne
            have hgo : ∀ a' w', After w0 m0 N (andK (keepS LS mS (dstsOf ops l)) (wpD P ops N LS mS l K)) s lam o.dst a w a' w' →
                ((nextBar ((j, k + 1) :: l) == some j) = true → wpAny P .any ops (NP Q) f (LP.setIfInBounds j true) a' w') ∧ ((nextBar ((j, k + 1) :: l) == some j) = false → SOK LS mS lamS w' ∧ wpV P .any ops (NP Q) (SOK LS mS lamS) (fun x => nextBar ((j, k + 1) :: l) == some x) f (LP.setIfInBounds j true) a' w') := by
              rintro a' w' ⟨s', lam', hi', ⟨hkeep, hK⟩, hfr⟩
              refine ⟨fun hb => (by rw [hnb] at hb; cases hb), fun _ => ?_⟩
              have hlam' : ∀ k, k < LS.length → lam' k = lamS k := fun k hk => by
                obtain ⟨hr, _, _⟩ := h.keep; have hr := covL_len hr
                rw [hfr.lamk k (by omega)]; exact h.lam k hk
              refine ⟨SOK.of hi' hkeep hlam', ?_⟩
              rw [hBeq]
              refine ih (2 * l.length - D.length) (by omega) f LS mS lamS l (listed.setIfInBounds j true) _ D s' a' w' lam' (by omega) (by omega) hk2' ⟨hc', h.rel.set j, hi', ⟨hplan, h.dok.op, ?_, ?_, ?_, h.dok.nod⟩, fun e he => ready_mono (h.rdy e he) (hni e he), hkeep, hlam'⟩ hK
              · intro e he
                obtain ⟨o', ho', _, hd', _, _⟩ := h.dok.op e he
                have := uniq_ne hu ho' (hDal e he) hd' ho (fun hx => hni e he hx.symm)
                rw [hfr.tmps _ this]; exact h.dok.tmp e he
              · intro e he
                obtain ⟨h1, _, h3⟩ := h.dok.free e he
                have hb := h.dok.blk e he
                rw [hfr.keep e.b (Array.getElem?_eq_some_iff.1 hb).1 h1 h3]; exact hb
              · intro e he
                obtain ⟨h1, h2, h3⟩ := h.dok.free e he
                have hb := h.dok.blk e he
                obtain ⟨h4, h5⟩ := hfr.out e.b (Array.getElem?_eq_some_iff.1 hb).1 h1 h3
                exact ⟨h4, h2, h5⟩
            unfold wpOp
            simp only [ho]
            split at hstep
            · rename_i hwant; rw [if_pos hwant]; exact .inl (Oper.wp_mono hgo hstep)
            · rename_i hwant; rw [if_neg hwant]; exact hgo _ _ hstep
          · -- an allocation ahead of its time
            obtain ⟨oj, d, T, z, hoj, hop, hd, hg, hzz, hH⟩ := h.early haj hjr hjD hz hu hN
            have hnb : (nextBar ((i, k + 1) :: l) == some j) = false := by
              cases hb : nextBar ((i, k + 1) :: l) with
              | none => rfl
              | some b =>
                have h1 := chk_kind h.chk (nextBar_mem hb)
                have hne : b ≠ j := fun he => by subst he; have := h1.1 haj; omega
                simpa using hne
            unfold wpOp
            simp only [hoj]
            rw [if_pos (wanted_none hg _)]
            refine .inl ?_
            unfold Oper.wp
            rw [alloc_run hop hzz]
            refine ⟨fun hb => (by rw [hnb] at hb; cases hb), fun _ => ⟨hS.alloc _, ?_⟩⟩
            exact ih (n - 1) (by omega) f LS mS lamS _ listed _ _ s _ _ lam (by simp only [List.length_cons]; omega) (by simp only [List.length_cons]; omega) hk2 hH hw0

/-- everything about a region that is to be reckoned -/
def drawOk (P : Program) (ops : Array Oper) (N : Nat) (l : List (Nat × Nat)) : Bool :=
  P.follows .mixedOrders && Region.noSelect ops && uniqAlloc ops && zeroOk P ops && dstAll ops N && l.all (fun x => x.2 ≤ 5) && l.length ≤ ops.size && chk ops l (Array.replicate ops.size false)
/-- LS, mS: what is read of the memory up to the first operation of kind 3 -/
theorem draw_rule_at {id : Nat} {K : Exit → St → Prop} {s : St} (LS : List (Option (TypeId × List Value))) (mS : Mem) (l : List (Nat × Nat)) (hok : drawOk P ops N l = true) (hLS : covL LS s.L) (hmS : mS.le s.m) (hno : noE s.E (dstsOf ops l)) (h : wpD P ops N LS mS l (K .normal) s) : SemCode P N (.region id ops true) K s := by
  intro w0 m0 a w lam hi
  unfold drawOk at hok
  simp only [Bool.and_eq_true, decide_eq_true_eq] at hok
  obtain ⟨⟨⟨⟨⟨⟨⟨hm, hsel⟩, hu⟩, hz⟩, hN⟩, hk⟩, hl⟩, hc⟩ := hok
  have hi' : Inv w0 m0 N a { w with drawn := w.drawn + 1 } s lam :=
    ⟨hi.defers, hi.size, hi.env, hi.ok, hi.loc, hi.inj, hi.sep, hi.old, hi.sat.drew _, hi.frm.trans (Frm.drew _ _ _)⟩
  have := draw_ind (P := P) (N := N) (ops := ops) (w0 := w0) (m0 := m0) (K := K .normal) (Q := fun a w => AfterE w0 m0 N K .normal a w)
    (fun a w s lam h1 h2 => ⟨s, lam, h1, h2⟩) hsel hu hz hN (2 * l.length) ops.size LS mS lam l (Array.replicate ops.size false) (Array.replicate ops.size false) [] s a { w with drawn := w.drawn + 1 } lam rfl (by simpa using hl)
    (fun i k hx => by simpa using List.all_eq_true.1 hk (i, k) hx)
    ⟨hc, ⟨by simp, by simp, fun j d hj => by simp⟩, hi', ⟨fun e he => (by cases he), fun e he => (by cases he), fun e he => (by cases he), fun e he => (by cases he), fun e he => (by cases he), List.Pairwise.nil⟩, fun e he => (by cases he), ⟨hLS, hmS, hno⟩, fun _ _ => rfl⟩ h
  refine Code.wp_mono ?_ (wp_region_any (id := id) hm (wpV_any _ _ _ _ this))
  intro e a' w' hq
  cases e <;> first | exact hq | exact hq.elim
theorem draw_rule {id : Nat} {K : Exit → St → Prop} {s : St} (l : List (Nat × Nat)) (hok : drawOk P ops N l = true) (hno : noE s.E (dstsOf ops l)) (h : wpD P ops N s.L s.m l (K .normal) s) : SemCode P N (.region id ops true) K s :=
  draw_rule_at s.L s.m l hok (covL_self _) (Mem.le.refl _) hno h
end
end Go.FL
