/- The facts logic, part K: a region that draws its order, run along a plan (0: a light operation, taken first; 1: a hard one; 2: an allocation, taken late). -/
import Derived.Test.YtcidapidlgdacaaGreatFlJ
set_option linter.unusedVariables false
set_option linter.unusedSimpArgs false
namespace Go.FL

def isAllocOp (o : Oper) : Bool := match o.op, o.dst, o.guard with | .alloc _, some _, none => true | _, _, _ => false
def allocAt (ops : Array Oper) (i : Nat) : Bool := match ops[i]? with | some o => isAllocOp o | none => false
def markAll (listed : Array Bool) (l : List Nat) : Array Bool := l.foldl (fun a i => a.setIfInBounds i true) listed
/-- what an operation yields hangs on its operands alone -/
def pureOp : Op → Bool
  | .load _ _ => false
  | .convert _ _ _ => false
  | _ => true
def pureAt (ops : Array Oper) (i : Nat) : Bool := match ops[i]? with | some o => pureOp o.op | none => false
/-- b comes up behind i alone -/
def waitsFor (ops : Array Oper) (b i : Nat) : Bool := match ops[b]? with | some o => o.after.any fun e => Region.binds .any e && e.on == i | none => true
/-- the next operation behind which the memory is looked at anew -/
def nextBar : List (Nat × Nat) → Option Nat
  | [] => none
  | (b, 3) :: _ => some b
  | (_, _) :: l => nextBar l
def barOk (ops : Array Oper) (i : Nat) (b : Option Nat) : Bool := match b with | some b => waitsFor ops b i || pureAt ops i | none => true
/-- the plan fits the region's edges -/
def chk (ops : Array Oper) : List (Nat × Nat) → Array Bool → Bool
  | [], listed => (Region.ready .any ops listed).isEmpty
  | (i, k) :: l, listed =>
    let R := Region.ready .any ops listed
    let A := R.filter (allocAt ops)
    R.contains i && (match k with
      | 0 => Region.free .any ops listed i && !allocAt ops i && barOk ops i (nextBar l)
      | 1 => !allocAt ops i && (Region.ready .any ops (markAll listed A)) == [i]
      | 4 => Region.free .any ops listed i && !allocAt ops i
      | 5 => !allocAt ops i && (Region.ready .any ops (markAll listed A)) == [i]
      | 2 => allocAt ops i && (Region.ready .any ops (markAll listed (A.filter (fun j => j != i)))) == [i]
      | _ => !allocAt ops i && R == [i]) && chk ops l (listed.setIfInBounds i true)
/-- the temporaries of allocations are nobody else's -/
def uniqAlloc (ops : Array Oper) : Bool :=
  (List.range ops.size).all fun i => !allocAt ops i || (List.range ops.size).all fun j => j == i || ((ops[j]?).bind (·.dst)) != ((ops[i]?).bind (·.dst))
def allocDsts (ops : Array Oper) : List Nat := ops.toList.filterMap fun o => if isAllocOp o then o.dst else none

def dstsOf (ops : Array Oper) : List (Nat × Nat) → List Nat
  | [] => []
  | (i, k) :: l => match k with
    | 2 => match (ops[i]?).bind (·.dst) with
      | some d => d :: dstsOf ops l
      | none => dstsOf ops l
    | _ => dstsOf ops l
def noE (E : List (Nat × SV)) : List Nat → Prop
  | [] => True
  | d :: r => look E d = none ∧ noE E r
/-- what stays put through the region -/
def keepS (LS : List (Option (TypeId × List Value))) (mS : Mem) (ds : List Nat) (s : St) : Prop := covL LS s.L ∧ mS.le s.m ∧ noE s.E ds
def lightD (P : Program) (LS : List (Option (TypeId × List Value))) (mS : Mem) (o : Oper) (s : St) (K : St → Prop) : Prop :=
  match lightS P ⟨s.E, LS, mS⟩ o.op with
  | some (p, sv) => p ∧ K (s.put o.dst sv)
  | none => False
def lightDG (P : Program) (LS : List (Option (TypeId × List Value))) (mS : Mem) (o : Oper) (c : Bool) (s : St) (K : St → Prop) : Prop :=
  match lightS P ⟨s.E, LS, mS⟩ o.op with
  | some (p, sv) => (c = true → p) ∧ K (s.put o.dst (.gd c sv))
  | none => False
def lightO (P : Program) (ops : Array Oper) (N : Nat) (LS : List (Option (TypeId × List Value))) (mS : Mem) (o : Oper) (s : St) (K : St → Prop) : Prop :=
  dstOk o.dst N = true ∧
  match o.guard with
  | none => lightD P LS mS o s K
  | some (j, want) => match (ops[j]?).bind (·.dst) with
    | some g => match gbitO want (look s.E g) with
      | some c => lightDG P LS mS o c s K
      | none => False
    | none => False
/-- an operation whose guard is known to say no -/
def skipO (ops : Array Oper) (N : Nat) (o : Oper) (s : St) (K : St → Prop) : Prop :=
  dstOk o.dst N = true ∧
  match o.guard with
  | none => False
  | some (j, want) => match (ops[j]?).bind (·.dst) with
    | some g => match gbitO want (look s.E g) with
      | some c => c = false ∧ K (s.put o.dst (.gd false (.val undef)))
      | none => False
    | none => False
def andK (A K : St → Prop) (s : St) : Prop := A s ∧ K s
def wpD (P : Program) (ops : Array Oper) (N : Nat) (LS : List (Option (TypeId × List Value))) (mS : Mem) : List (Nat × Nat) → (St → Prop) → St → Prop
  | [], K, s => K s
  | (i, k) :: l, K, s => match ops[i]? with
    | none => False
    | some o => match k with
      | 0 => lightO P ops N LS mS o s (wpD P ops N LS mS l K)
      | 4 => skipO ops N o s (wpD P ops N LS mS l K)
      | 5 => wpO P ops N o s (fun s' => keepS LS mS (dstsOf ops l) s' ∧ wpD P ops N s'.L s'.m l K s')
      | 3 => wpO P ops N o s (fun s' => noE s'.E (dstsOf ops l) ∧ wpD P ops N s'.L s'.m l K s')
      | _ => wpO P ops N o s (andK (keepS LS mS (dstsOf ops l)) (wpD P ops N LS mS l K))

/-- an allocation that has come up before its time -/
structure Ent where
  i : Nat
  d : Nat
  b : Nat
  T : TypeId
  z : List Value

section
variable {P : Program} {N : Nat} {ops : Array Oper} {LS : List (Option (TypeId × List Value))} {mS : Mem}

structure DOk (P : Program) (ops : Array Oper) (l : List (Nat × Nat)) (w0 : World) (D : List Ent) (s : St) (a : Act) (w : World) (lam : Nat → Nat) : Prop where
  plan : ∀ e ∈ D, (e.i, 2) ∈ l
  op : ∀ e ∈ D, ∃ o, ops[e.i]? = some o ∧ o.op = .alloc e.T ∧ o.dst = some e.d ∧ o.guard = none ∧ tzero P e.T = some e.z
  tmp : ∀ e ∈ D, a.tmps.getD e.d undef = .pointer (some ⟨e.b, 0, none⟩)
  blk : ∀ e ∈ D, w.heap[e.b]? = some (.cells e.z.toArray e.T (0, 0))
  free : ∀ e ∈ D, s.m.fresh e.b ∧ w0.heap.size ≤ e.b ∧ ∀ k, s.al k → lam k ≠ e.b
  nod : D.Pairwise fun e e' => e.i ≠ e'.i ∧ e.b ≠ e'.b

def SOK (LS : List (Option (TypeId × List Value))) (mS : Mem) (lamS : Nat → Nat) (w : World) : Prop :=
  Sat w mS ∧ ∀ k T cs, LS[k]? = some (some (T, cs)) → w.heap[lamS k]? = some (.cells cs.toArray T (0, 0))

theorem SOK.of {w0 : World} {m0 : Mem} {a : Act} {w : World} {s : St} {lam lamS : Nat → Nat} (hi : Inv w0 m0 N a w s lam) {ds : List Nat} (hk : keepS LS mS ds s) (hl : ∀ k, k < LS.length → lam k = lamS k) : SOK LS mS lamS w := by
  obtain ⟨hr, hm, _⟩ := hk
  refine ⟨hi.sat.le hm, fun k T cs h => ?_⟩
  have hlt : k < LS.length := (List.getElem?_eq_some_iff.1 h).1
  rw [← hl k hlt]
  exact hi.loc k T cs (covL_get hr h)
theorem SOK.alloc {lamS : Nat → Nat} {w : World} (h : SOK LS mS lamS w) (o : Obj) : SOK LS mS lamS (w.alloc o) := by
  refine ⟨h.1.alloc o, fun k T cs hk => ?_⟩
  have hx := h.2 k T cs hk
  have : lamS k < w.heap.size := (Array.getElem?_eq_some_iff.1 hx).1
  show (w.heap.push o)[lamS k]? = _
  rw [Array.getElem?_push_lt this, ← hx]; simp [this]

theorem mem_markAll {l : List Nat} : ∀ {listed : Array Bool} {j : Nat} {d : Bool}, (listed.getD j d = true → (markAll listed l).getD j d = true) := by
  induction l with
  | nil => intro listed j d h; exact h
  | cons x r ih =>
    intro listed j d h
    simp only [markAll, List.foldl_cons]
    refine ih (listed := listed.setIfInBounds x true) ?_
    by_cases hx : x = j
    · subst hx
      rcases Nat.lt_or_ge x listed.size with hl | hl
      · simp [hl]
      · rw [Array.getD_eq_getD_getElem?, Array.getElem?_eq_none (by simpa using hl)]
        rw [Array.getD_eq_getD_getElem?, Array.getElem?_eq_none hl] at h
        exact h
    · rw [getD_set_ne d hx]; exact h
theorem markAll_get {l : List Nat} : ∀ {listed : Array Bool} {j : Nat} {d : Bool}, j ∉ l → (markAll listed l).getD j d = listed.getD j d := by
  induction l with
  | nil => intro listed j d h; rfl
  | cons x r ih =>
    intro listed j d h
    simp only [markAll, List.foldl_cons]
    have h1 : x ≠ j := fun e => h (by simp [e])
    have := ih (listed := listed.setIfInBounds x true) (j := j) (d := d) (fun hm => h (by simp [hm]))
    simp only [markAll] at this
    rw [this, getD_set_ne d h1]
theorem markAll_in {l : List Nat} : ∀ {listed : Array Bool} {j : Nat} {d : Bool}, j ∈ l → j < listed.size → (markAll listed l).getD j d = true := by
  induction l with
  | nil => intro listed j d h; cases h
  | cons x r ih =>
    intro listed j d h hlt
    simp only [markAll, List.foldl_cons]
    by_cases hr : j ∈ r
    · exact ih (listed := listed.setIfInBounds x true) hr (by simpa using hlt)
    · have hx : j = x := by cases h with | head => rfl | tail _ h => exact absurd h hr
      subst hx
      have := markAll_get (l := r) (listed := listed.setIfInBounds j true) (j := j) (d := d) hr
      simp only [markAll] at this
      rw [this]; simp [hlt]
theorem markAll_size {l : List Nat} : ∀ {listed : Array Bool}, (markAll listed l).size = listed.size := by
  induction l with
  | nil => intro listed; rfl
  | cons x r ih => intro listed; simp only [markAll, List.foldl_cons]; have := ih (listed := listed.setIfInBounds x true); simp only [markAll] at this; rw [this]; simp
/-- more that is listed: what was ready and isn't listed stays ready -/
theorem ready_more {listed listed' : Array Bool} (hm : ∀ j, listed.getD j false = true → listed'.getD j false = true) {j : Nat} (hj : j ∈ Region.ready .any ops listed) (hu : listed'.getD j true = false) : j ∈ Region.ready .any ops listed' := by
  rw [mem_ready] at hj ⊢
  obtain ⟨_, o, ho, hall⟩ := hj
  exact ⟨hu, o, ho, fun e he hb => hm _ (hall e he hb)⟩
theorem free_more {listed listed' : Array Bool} (hm : ∀ j, listed.getD j true = true → listed'.getD j true = true) {i : Nat} (h : Region.free .any ops listed i = true) : Region.free .any ops listed' i = true := by
  unfold Region.free at h ⊢
  cases hoi : ops[i]? with
  | none => rw [hoi] at h; cases h
  | some oi =>
    rw [hoi] at h
    simp only [List.all_eq_true] at h ⊢
    intro j hj
    have := h j hj
    simp only [Bool.or_eq_true] at this ⊢
    rcases this with (h1 | h1) | h1
    · exact .inl (.inl h1)
    · exact .inl (.inr (hm j h1))
    · exact .inr h1

section
variable {Q : Exit → Act → World → Prop} {md : Region.Mode} {S : World → Prop} {B : Nat → Bool}
/-- whatever comes up: S holds behind each, but behind those of B (the stores that wait for all that was read), where all is looked at anew -/
def wpV (P : Program) (md : Region.Mode) (ops : Array Oper) (Q : Exit → Act → World → Prop) (S : World → Prop) (B : Nat → Bool) : Nat → Array Bool → Act → World → Prop
  | 0, listed, a, w => Region.ready md ops listed = [] ∧ Q .normal a w
  | f + 1, listed, a, w => (Region.ready md ops listed = [] → Q .normal a w) ∧
    ∀ i ∈ Region.ready md ops listed, wpOp P ops Q i (fun a' w' => (B i = true → wpAny P md ops Q f (listed.setIfInBounds i true) a' w') ∧ (B i = false → S w' ∧ wpV P md ops Q S B f (listed.setIfInBounds i true) a' w')) a w
theorem wpV_any : ∀ (f : Nat) (listed : Array Bool) (a : Act) (w : World), wpV P md ops Q S B f listed a w → wpAny P md ops Q f listed a w
  | 0, _, _, _, h => h
  | f + 1, _, _, _, h => ⟨h.1, fun i hi => wpOp_mono (fun a' w' hk => by
      cases hb : B i with
      | true => exact hk.1 hb
      | false => exact wpV_any f _ a' w' (hk.2 hb).2) (h.2 i hi)⟩
theorem wpV_done {listed : Array Bool} {a : Act} {w : World} (hr : Region.ready md ops listed = []) (h : Q .normal a w) : ∀ f, wpV P md ops Q S B f listed a w
  | 0 => ⟨hr, h⟩
  | f + 1 => ⟨fun _ => h, fun i hi => by rw [hr] at hi; cases hi⟩
theorem wpV_mono {S' : World → Prop} (h : ∀ w, S' w → S w) : ∀ (f : Nat) (listed : Array Bool) (a : Act) (w : World), wpV P md ops Q S' B f listed a w → wpV P md ops Q S B f listed a w
  | 0, _, _, _, hk => hk
  | f + 1, _, _, _, hk => ⟨hk.1, fun i hi => wpOp_mono (fun a' w' hq => ⟨hq.1, fun hb => ⟨h _ (hq.2 hb).1, wpV_mono h f _ a' w' (hq.2 hb).2⟩⟩) (hk.2 i hi)⟩
/-- where it needs no memory, it yields in every world -/
def SP (pu : Bool) (S : World → Prop) (w : World) : Prop := pu = true ∨ S w
theorem wpV_first {i : Nat} {oi : Oper} {v : Value} {pu : Bool} (hi : ops[i]? = some oi) (hsel : ∀ (j : Nat) (o : Oper) cs b, ops[j]? = some o → o.op ≠ .select cs b)
    (hQ : ∀ c a w, Q (.panic c) (a.put oi.dst v) w → Q (.panic c) a w)
    (hB : ∀ j oj, ops[j]? = some oj → B j = true → pu = true ∨ ∃ e ∈ oj.after, Region.binds md e = true ∧ e.on = i) :
    ∀ (f : Nat) (listed : Array Bool) (a : Act) (w : World),
      (∀ j oj, ops[j]? = some oj → j ≠ i → listed.getD j true = false → (∀ e ∈ oj.after, Region.binds md e = true → e.on ≠ i) → oi.apart ops oj = true) →
      i ∈ Region.ready md ops listed → YieldsIf P ops (SP pu S) oi v a → S w →
      wpV P md ops Q S B f (listed.setIfInBounds i true) (a.put oi.dst v) w → wpV P md ops Q S B (f + 1) listed a w := by
  intro f
  induction f with
  | zero =>
    intro listed a w _ hr hy hS H
    refine ⟨fun h => (by rw [h] at hr; cases hr), fun j hj => ?_⟩
    rcases Nat.decEq j i with hji | hji
    · have h1 := ready_mono hj hji
      rw [H.1] at h1; cases h1
    · subst hji
      exact hy.wpOp hi (.inr hS) ⟨fun _ => wpV_any _ _ _ _ H, fun _ => ⟨hS, H⟩⟩
  | succ f ih =>
    intro listed a w hfree hr hy hS H
    refine ⟨fun h => (by rw [h] at hr; cases hr), fun j hj => ?_⟩
    rcases Nat.decEq j i with hji | hji
    case isTrue =>
      subst hji
      exact hy.wpOp hi (.inr hS) ⟨fun _ => wpV_any _ _ _ _ H, fun _ => ⟨hS, H⟩⟩
    obtain ⟨hju, oj, hoj, hjall⟩ := mem_ready.1 hj
    have hun := (mem_ready.1 hr).1
    have hilt := (Array.getElem?_eq_some_iff.1 hi).1
    -- j waits not for i, which has not come up
    have hnot : ∀ e ∈ oj.after, Region.binds md e = true → e.on ≠ i := by
      intro e he hb heq
      have h1 := hjall e he hb
      rw [heq] at h1
      rcases Nat.lt_or_ge i listed.size with hl | hl
      · simp only [Array.getD_eq_getD_getElem?, Array.getElem?_eq_getElem hl, Option.getD_some] at hun h1
        rw [hun] at h1; cases h1
      · simp only [Array.getD_eq_getD_getElem?, Array.getElem?_eq_none hl, Option.getD_none] at h1; cases h1
    have hstep := wpOp_putIf hoj (hfree j oj hoj hji hju hnot) (fun cs b => hsel i oi cs b hi) (fun cs b => hsel j oj cs b hoj) hQ hy (H.2 j (ready_mono hj hji))
    have hfree' : ∀ k ok, ops[k]? = some ok → k ≠ i → (listed.setIfInBounds j true).getD k true = false → (∀ e ∈ ok.after, Region.binds md e = true → e.on ≠ i) → oi.apart ops ok = true := by
      intro k ok hk hki hkl hkn
      refine hfree k ok hk hki ?_ hkn
      by_cases hjk : j = k
      · rw [← hjk]; exact hju
      · rwa [getD_set_ne true hjk] at hkl
    have hr' := ready_mono hr (Ne.symm hji)
    refine wpOp_mono (fun a' w' hk => ?_) hstep
    obtain ⟨hy', hk⟩ := hk
    refine ⟨fun hb => ?_, fun hb => ?_⟩
    · have hpu : pu = true := by
        rcases hB j oj hoj hb with h1 | ⟨e, he, hbe, heq⟩
        · exact h1
        · exact absurd heq (hnot e he hbe)
      have hyy : Yields P ops oi v a' := hy'.imp (fun ⟨h1, h2⟩ => ⟨h1, fun w => h2 w (.inl hpu)⟩) id
      have h2 := hk.1 hb
      rw [Array.setIfInBounds_comm _ _ (Ne.symm hji)] at h2
      exact wpAny_first hi hsel hQ f _ a' w' hfree' hr' hyy h2
    · obtain ⟨hS', h2⟩ := hk.2 hb
      rw [Array.setIfInBounds_comm _ _ (Ne.symm hji)] at h2
      exact ⟨hS', ih _ a' w' hfree' hr' hy' hS' h2⟩
theorem wpV_take {i : Nat} {oi : Oper} {v : Value} {pu : Bool} {f : Nat} {listed : Array Bool} {a : Act} {w : World} (hi : ops[i]? = some oi)
    (hs : Region.noSelect ops = true) (hf : Region.free md ops listed i = true) (hr : i ∈ Region.ready md ops listed)
    (hQ : ∀ c a w, Q (.panic c) (a.put oi.dst v) w → Q (.panic c) a w) (hB : ∀ j oj, ops[j]? = some oj → B j = true → pu = true ∨ ∃ e ∈ oj.after, Region.binds md e = true ∧ e.on = i)
    (hy : YieldsIf P ops (SP pu S) oi v a) (hS : S w) (h : wpV P md ops Q S B f (listed.setIfInBounds i true) (a.put oi.dst v) w) : wpV P md ops Q S B (f + 1) listed a w :=
  wpV_first hi (Region.noSelect_spec hs) hQ hB f listed a w (Region.free_spec hi hf) hr hy hS h
end

def NP (Q : Act → World → Prop) : Exit → Act → World → Prop
  | .normal, a, w => Q a w
  | _, _, _ => False

theorem alloc_run {o : Oper} {T : TypeId} {z : List Value} (hop : o.op = .alloc T) (hz : tzero P T = some z) (a : Act) (w : World) :
    (execOp a.eval o).run P w = .ok (.value (.pointer (some ⟨w.heap.size, 0, none⟩))) (w.alloc (.cells z.toArray T)) := by
  obtain ⟨i, v, hi', hzz, hc⟩ := tzero_ok hz
  have hnew : (newObj (.cells v.cells T)).run P w = .ok w.heap.size (w.alloc (.cells v.cells T)) := rfl
  have : z.toArray = v.cells := by rw [← hc]
  rw [this]
  simp [execOp, hop, Instr.alloc, newVar, newRow, hnew, Result.andThen, run_zeroValue' hi' hzz]

theorem isAlloc_spec {o : Oper} (h : isAllocOp o = true) : ∃ T d, o.op = .alloc T ∧ o.dst = some d ∧ o.guard = none := by
  unfold isAllocOp at h
  split at h
  · rename_i T d hop hd hg; exact ⟨T, d, hop, hd, hg⟩
  · cases h
theorem allocAt_spec {i : Nat} (h : allocAt ops i = true) : ∃ o, ops[i]? = some o ∧ isAllocOp o = true := by
  unfold allocAt at h
  split at h
  · rename_i o ho; exact ⟨o, ho, h⟩
  · cases h

end
end Go.FL
