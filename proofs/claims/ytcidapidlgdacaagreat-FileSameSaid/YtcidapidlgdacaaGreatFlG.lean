/- The facts logic, part G: the run of code on states ('wpC'), and why it is sound. -/
import Derived.Test.YtcidapidlgdacaaGreatFlF
set_option linter.unusedVariables false
set_option linter.unusedSimpArgs false
namespace Go.FL

/-- what an operation leaves as it was -/
structure Fr (s s' : St) (lam lam' : Nat → Nat) (d : Option Tmp) (a a' : Act) (w w' : World) : Prop where
  lamk : ∀ k, k < s.L.length → lam' k = lam k
  size : w.heap.size ≤ w'.heap.size
  keep : ∀ b, b < w.heap.size → s.m.fresh b → (∀ k, s.al k → lam k ≠ b) → w'.heap[b]? = w.heap[b]?
  out : ∀ b, b < w.heap.size → s.m.fresh b → (∀ k, s.al k → lam k ≠ b) → s'.m.fresh b ∧ ∀ k, s'.al k → lam' k ≠ b
  tmps : ∀ t, d ≠ some t → a'.tmps.getD t undef = a.tmps.getD t undef
/-- what is left behind, from a state that is known as s -/
def After (w0 : World) (m0 : Mem) (N : Nat) (K : St → Prop) (s : St) (lam : Nat → Nat) (d : Option Tmp) (a : Act) (w : World) (a' : Act) (w' : World) : Prop :=
  ∃ s' lam', Inv w0 m0 N a' w' s' lam' ∧ K s' ∧ Fr s s' lam lam' d a a' w w'
theorem Act.put_other {a : Act} {d : Option Tmp} {v : Value} {t : Nat} (h : d ≠ some t) : (a.put d v).tmps.getD t undef = a.tmps.getD t undef := by
  cases d with
  | none => rfl
  | some d =>
    have hne : d ≠ t := fun e => h (e ▸ rfl)
    simp [Act.put, Array.getElem?_setIfInBounds_ne hne]
theorem Fr.same {s s' : St} {lam : Nat → Nat} {d : Option Tmp} {a : Act} {w : World} {v : Value} (hl : s'.L = s.L) (hm : s'.m = s.m) : Fr s s' lam lam d a (a.put d v) w w :=
  ⟨fun _ _ => rfl, Nat.le_refl _, fun _ _ _ _ => rfl, fun b _ h1 h2 => by rw [hm]; exact ⟨h1, fun k hk => h2 k (by unfold St.al at hk ⊢; rw [← hl]; exact hk)⟩, fun t ht => Act.put_other ht⟩
theorem St.al_lt {s : St} {k : Nat} (h : s.al k) : k < s.L.length := by obtain ⟨x, hx⟩ := h; exact (List.getElem?_eq_some_iff.1 hx).1
theorem St.al_of {s s' : St} (h : s'.L = s.L) {k : Nat} (hk : s'.al k) : s.al k := by unfold St.al at *; rwa [← h]
theorem St.al_snoc {s : St} {E : List (Nat × SV)} {m : Mem} {x : Option (TypeId × List Value)} {k : Nat} (h : St.al ⟨E, s.L ++ [x], m⟩ k) : s.al k ∨ k = s.L.length := by
  obtain ⟨y, hy⟩ := h
  rcases Nat.lt_trichotomy k s.L.length with hl | hl | hl
  · left; rw [List.getElem?_append_left hl] at hy; exact ⟨y, hy⟩
  · exact .inr hl
  · rw [List.getElem?_eq_none (by simp; omega)] at hy; cases hy
theorem St.put_L (s : St) (d : Option Tmp) (v : SV) : (s.put d v).L = s.L := by cases d <;> rfl
theorem St.put_m (s : St) (d : Option Tmp) (v : SV) : (s.put d v).m = s.m := by cases d <;> rfl
def AfterE (w0 : World) (m0 : Mem) (N : Nat) (K : Exit → St → Prop) (e : Exit) (a : Act) (w : World) : Prop := ∃ s lam, Inv w0 m0 N a w s lam ∧ K e s
/-- an operation, by what it means -/
def SemOp (P : Program) (N : Nat) (o : Oper) (s : St) (K : St → Prop) : Prop :=
  ∀ w0 m0 a w lam Q, Inv w0 m0 N a w s lam → o.wp P a w (After w0 m0 N K s lam o.dst a w) Q
/-- code, by what it means -/
def SemCode (P : Program) (N : Nat) (c : Code) (K : Exit → St → Prop) (s : St) : Prop :=
  ∀ w0 m0 a w lam, Inv w0 m0 N a w s lam → c.wp P (AfterE w0 m0 N K) a w

def dstOk (d : Option Tmp) (N : Nat) : Bool := match d with | some d => decide (d < N) | none => true
def addLoc (s : St) (d : Option Tmp) (T : TypeId) (cs : List Value) (sv : Nat → SV) : St :=
  (St.mk s.E (s.L ++ [some (T, cs)]) s.m).put d (sv s.L.length)
def setLoc (L : List (Option (TypeId × List Value))) (k off : Nat) (vs : List Value) : Option (List (Option (TypeId × List Value))) :=
  match L[k]? with
  | some (some (T, cs)) => if off + vs.length ≤ cs.length then some (L.set k (some (T, overlay cs off vs))) else none
  | _ => none
def wpCall (P : Program) (f : FuncId) (args : List Value) (d : Option Tmp) (s : St) (K : St → Prop) : Prop :=
  CC P f args s.m fun e m' => ∃ v, e = .returned v ∧ K ((St.mk s.E s.L m').put d (.val v))
/-- the hard operations that are run; any other stands by its meaning -/
def wpH (P : Program) (N : Nat) (o : Oper) (s : St) (K : St → Prop) : Prop :=
  match o.op with
  | .box T x => match opr s.E x with
    | some (.val v) => K (addLoc s o.dst T v.cells.toList fun k => .loc k 0)
    | _ => SemOp P N o s K
  | .alloc T => match tzero P T with
    | some z => K (addLoc s o.dst T z fun k => .loc k 0)
    | none => SemOp P N o s K
  | .store T x y => match tinfo P T, opr s.E x, opr s.E y with
    | some (n, _), some (.loc k off), some (.val v) =>
      if v.cells.toList.length = n ∧ v.cells.toList.all (·.oneCell') = true then match setLoc s.L k off v.cells.toList with
        | some L => K ((St.mk s.E L s.m).put o.dst (.val undef))
        | none => SemOp P N o s K
      else SemOp P N o s K
    | _, _, _ => SemOp P N o s K
  | .buildSlice T len parts => match telem P T, vals s.E (parts.toList.map (·.2)) with
    | some (e, sz, _), some (p, vs) => match tzero P e with
      | some z => match fillL (fun i => some (i * sz, sz)) (List.replicate len z).flatten ((parts.toList.map (·.1)).zip vs) with
        | some cs => (z.length = sz ∧ 0 < sz ∧ len * sz ≤ 16777216) ∧ p ∧ K (addLoc s o.dst e cs fun k => .lsl k len)
        | none => SemOp P N o s K
      | none => SemOp P N o s K
    | _, _ => SemOp P N o s K
  | .call { callee := .value fo, args, argTypes := _ } => match opr s.E fo, vals s.E args.toList with
    | some (.val (.func (.func f) first capt)), some (p, vs) => p ∧ wpCall P f (first.toList ++ vs ++ capt.toList) o.dst s K
    | _, _ => SemOp P N o s K
  | _ => SemOp P N o s K
def wpX (P : Program) (N : Nat) (o : Oper) (s : St) (K : St → Prop) : Prop :=
  match lightS P s o.op with
  | some (p, sv) => p ∧ K (s.put o.dst sv)
  | none => wpH P N o s K
/-- the call returns r from facts m and leaves them -/
def PureAt (P : Program) (f : FuncId) (args : List Value) (m : Mem) (r : Value) : Prop := CC P f args m fun e m' => e = .returned r ∧ m' = m
/-- a call under a guard: both ways, or a call that leaves all as it is -/
def wpGC (P : Program) (f : FuncId) (args : List Value) (p : Prop) (c : Bool) (d : Option Tmp) (s : St) (K : St → Prop) : Prop :=
  ((c = true → p ∧ wpCall P f args d s K) ∧ (c = false → K (s.put d (.val undef)))) ∨ ∃ r, (c = true → p ∧ PureAt P f args s.m r) ∧ K (s.put d (.gd c (.val r)))
def wpG (P : Program) (N : Nat) (o : Oper) (c : Bool) (s : St) (K : St → Prop) : Prop :=
  match lightS P s o.op with
  | some (p, sv) => (c = true → p) ∧ K (s.put o.dst (.gd c sv))
  | none => match o.op with
    | .call { callee := .value fo, args, argTypes := _ } => (match opr s.E fo, vals s.E args.toList with
      | some (.val (.func (.func f) first capt)), some (p, vs) => wpGC P f (first.toList ++ vs ++ capt.toList) p c o.dst s K
      | _, _ => (c = true → wpH P N o s K) ∧ (c = false → K (s.put o.dst (.val undef))))
    | _ => (c = true → wpH P N o s K) ∧ (c = false → K (s.put o.dst (.val undef)))
/-- is what the guard asks for there? -/
def gbit (want : Bool) : SV → Option Bool
  | .val (.bool b) => some (b == want)
  | .gd c s => match gbit want s with
    | some d => some (c && d)
    | none => none
  | _ => none
def gbitO (want : Bool) : Option SV → Option Bool
  | some sv => gbit want sv
  | none => none
theorem gbit_ok {want : Bool} {lam : Nat → Nat} : ∀ {sv : SV} {c : Bool}, gbit want sv = some c → (c = true → sv.conc lam = .bool want) ∧ (c = false → sv.conc lam = .bool (!want) ∨ sv.conc lam = undef)
  | .val v, c, h => by
    unfold gbit at h
    split at h
    · rename_i b hb; cases hb; cases h
      cases b <;> cases want <;> simp [SV.conc]
    · rename_i hb; cases hb
    · cases h
  | .gd d s, c, h => by
    simp only [gbit] at h
    cases hs : gbit want s with
    | none => rw [hs] at h; cases h
    | some e =>
      rw [hs] at h; cases h
      have ih := gbit_ok (lam := lam) hs
      cases d with
      | false => simp [SV.conc]
      | true => simpa [SV.conc] using ih
  | .loc _ _, c, h => by cases h
  | .lsl _ _, c, h => by cases h
  | .elt _ _ _ _, c, h => by cases h
  | .ptr _ _, c, h => by cases h
theorem wanted_of {ops : Array Oper} {o : Oper} {a : Act} {E : List (Nat × SV)} {lam : Nat → Nat} (henv : ∀ t sv, look E t = some sv → a.tmps.getD t undef = sv.conc lam) {j g : Nat} {want c : Bool}
    (hg : o.guard = some (j, want)) (hgj : (ops[j]?).bind (·.dst) = some g) (hb : gbitO want (look E g) = some c) : Region.wanted o (yielded ops a.tmps) = c := by
  cases hl : look E g with
  | none => rw [hl] at hb; cases hb
  | some sv =>
    rw [hl] at hb
    have hb : gbit want sv = some c := hb
    have he := henv g sv hl
    have hk := gbit_ok (lam := lam) hb
    have hy : yielded ops a.tmps j = match sv.conc lam with | .bool b => some b | _ => none := by
      unfold yielded
      rw [hgj]
      rcases Nat.lt_or_ge g a.tmps.size with hlt | hge
      · rw [Array.getD_eq_getD_getElem?, Array.getElem?_eq_getElem hlt] at he
        simp only [Option.getD_some] at he
        simp only [Option.bind_some, Array.getElem?_eq_getElem hlt, he]
        cases SV.conc lam sv <;> rfl
      · rw [Array.getD_eq_getD_getElem?, Array.getElem?_eq_none hge] at he
        simp only [Option.getD_none] at he
        simp only [Option.bind_some, Array.getElem?_eq_none hge, Option.bind_none, ← he, undef]
    unfold Region.wanted
    rw [hg]
    cases c with
    | true => rw [(hk.1 rfl)] at hy; simp [hy]
    | false =>
      rcases hk.2 rfl with h | h
      · rw [h] at hy; cases want <;> simp [hy]
      · rw [h] at hy; simp [hy, undef]
def wpO (P : Program) (ops : Array Oper) (N : Nat) (o : Oper) (s : St) (K : St → Prop) : Prop :=
  dstOk o.dst N = true ∧
  match o.guard with
  | none => wpX P N o s K
  | some (j, want) => match (ops[j]?).bind (·.dst) with
    | some g => match gbitO want (look s.E g) with
      | some c => wpG P N o c s K
      | none => False
    | none => False
def wpL (P : Program) (ops : Array Oper) (N : Nat) : List Oper → (St → Prop) → St → Prop
  | [], K, s => K s
  | o :: r, K, s => wpO P ops N o s (wpL P ops N r K)
def wpIf (b : Bool) (A B : St → Prop) (s : St) : Prop := (b = true → A s) ∧ (b = false → B s)
def wpC (P : Program) (N : Nat) : Code → (Exit → St → Prop) → St → Prop
  | .skip, K, s => K .normal s
  | .label _, K, s => K .normal s
  | .region id ops d, K, s => match d with
    | false => wpL P ops N ops.toList (K .normal) s
    | true => SemCode P N (.region id ops true) K s
  | .seq x y, K, s => wpC P N x (fun e s => match e with | .normal => wpC P N y K s | e => K e s) s
  | .cond c x y, K, s => match opr s.E c with
    | some (.val (.bool b)) => wpIf b (wpC P N x K) (wpC P N y K) s
    | _ => False
  | .block id c, K, s => wpC P N c (fun e s => match e with | .exit j => (if j = id then K .normal s else K (.exit j) s) | e => K e s) s
  | .exit id, K, s => K (.exit id) s
  | .ret, K, s => K .ret s
  | .loop c, K, s => SemCode P N (.loop c) K s
  | .scope c, K, s => SemCode P N (.scope c) K s
  | .rangeFunc x t c d, K, s => SemCode P N (.rangeFunc x t c d) K s
  | .goto l, K, s => SemCode P N (.goto l) K s
  | .refuse t, K, s => False

section
variable {P : Program} {w0 : World} {m0 : Mem} {N : Nat} {a : Act} {w : World} {s : St} {lam : Nat → Nat}

theorem Inv.put (h : Inv w0 m0 N a w s lam) {d : Option Tmp} (hd : dstOk d N = true) {sv : SV} (hsv : sv.ok s.L.length) : Inv w0 m0 N (a.put d (sv.conc lam)) w (s.put d sv) lam := by
  cases d with
  | none => exact h
  | some d =>
    have hlt : d < N := by simpa [dstOk] using hd
    refine ⟨h.defers, by simpa [Act.put] using h.size, fun t v hv => ?_, fun t v hv => ?_, h.loc, h.inj, h.sep, h.old, h.sat, h.frm⟩
    case refine_2 =>
      simp only [St.put, look] at hv
      split at hv
      · cases hv; exact hsv
      · exact h.ok t v hv
    simp only [St.put, look] at hv
    split at hv
    · rename_i he; subst he; cases hv
      simp [Act.put, h.size, hlt]
    · rename_i he
      have := h.env t v hv
      simp only [Act.put]
      rw [← this]
      simp [Array.getElem?_setIfInBounds_ne he]
theorem Inv.addLoc (h : Inv w0 m0 N a w s lam) {d : Option Tmp} (hd : dstOk d N = true) (T : TypeId) (cs : List Value) (sv : Nat → SV) (v : Value)
    (hok : (sv s.L.length).ok (s.L.length + 1)) (hv : ∀ lam' : Nat → Nat, lam' s.L.length = w.heap.size → v = (sv s.L.length).conc lam') :
    ∃ lam', Inv w0 m0 N (a.put d v) (w.alloc (.cells cs.toArray T)) (FL.addLoc s d T cs sv) lam' ∧ Fr s (FL.addLoc s d T cs sv) lam lam' d a (a.put d v) w (w.alloc (.cells cs.toArray T)) := by
  let lam' : Nat → Nat := fun k => if k = s.L.length then w.heap.size else lam k
  have hsame : ∀ k, k < s.L.length → lam' k = lam k := fun k hk => by simp [lam']; omega
  have hheap : ∀ {b : Nat} {x : Obj}, w.heap[b]? = some x → (w.alloc (.cells cs.toArray T)).heap[b]? = some x := fun {b x} hb => by
    have : b < w.heap.size := (Array.getElem?_eq_some_iff.1 hb).1
    show (w.heap.push _)[b]? = some x
    rw [Array.getElem?_push_lt this, ← hb]; simp [this]
  have hlt : ∀ k, s.al k → lam k < w.heap.size := fun k ⟨⟨T', cs'⟩, hx⟩ => (Array.getElem?_eq_some_iff.1 (h.loc k T' cs' hx)).1
  have hinv : Inv w0 m0 N a (w.alloc (.cells cs.toArray T)) ⟨s.E, s.L ++ [some (T, cs)], s.m⟩ lam' → Inv w0 m0 N (a.put d v) (w.alloc (.cells cs.toArray T)) (FL.addLoc s d T cs sv) lam' := fun hi => by
    rw [hv lam' (by simp [lam'])]
    exact hi.put hd (by simpa using hok)
  have hfr : Fr s (FL.addLoc s d T cs sv) lam lam' d a (a.put d v) w (w.alloc (.cells cs.toArray T)) := by
    refine ⟨hsame, by show w.heap.size ≤ (w.heap.push _).size; simp, fun b hb _ _ => by show (w.heap.push _)[b]? = _; rw [Array.getElem?_push_lt hb]; simp [hb], fun b hb h1 h2 => ?_, fun t ht => Act.put_other ht⟩
    unfold FL.addLoc
    rw [St.put_m]
    refine ⟨h1, fun k hk => ?_⟩
    rcases St.al_snoc (s := s) (St.al_of (St.put_L _ _ _) hk) with hka | rfl
    · rw [hsame k (St.al_lt hka)]; exact h2 k hka
    · simp only [lam', if_true]; omega
  refine ⟨lam', ?_, hfr⟩
  suffices hs : (∀ t u, look s.E t = some u → a.tmps.getD t undef = u.conc lam') by
    refine hinv ⟨h.defers, h.size, hs, fun t u hu => SV.ok_mono (by simp) (h.ok t u hu), fun k T' cs' hk => ?_, fun j k hj hk he => ?_, fun k hk => ?_, fun k hk => ?_, h.sat.alloc _, h.frm.trans (Frm.alloc _ _ _)⟩
    · simp only at hk
      rcases Nat.lt_trichotomy k s.L.length with hl | hl | hl
      · rw [List.getElem?_append_left hl] at hk
        rw [hsame k hl]; exact hheap (h.loc k T' cs' hk)
      · subst hl
        simp at hk; obtain ⟨rfl, rfl⟩ := hk
        simp only [lam', if_true]
        show (w.heap.push _)[w.heap.size]? = _
        simp
      · rw [List.getElem?_eq_none (by simp; omega)] at hk; cases hk
    · rcases St.al_snoc (s := s) hj with hj | rfl <;> rcases St.al_snoc (s := s) hk with hk | rfl
      · rw [hsame j (St.al_lt hj), hsame k (St.al_lt hk)] at he; exact h.inj j k hj hk he
      · rw [hsame j (St.al_lt hj)] at he; simp only [lam', if_true] at he
        have := hlt j hj; omega
      · rw [hsame k (St.al_lt hk)] at he; simp only [lam', if_true] at he
        have := hlt k hk; omega
      · rfl
    · rcases St.al_snoc (s := s) hk with hk | rfl
      · rw [hsame k (St.al_lt hk)]; exact h.sep k hk
      · simp only [lam', if_true]; exact h.sat.fresh_of_ge (Nat.le_refl _)
    · rcases St.al_snoc (s := s) hk with hk | rfl
      · rw [hsame k (St.al_lt hk)]; exact h.old k hk
      · simp only [lam', if_true]; exact h.frm.size
  intro t u hu
  rw [h.env t u hu, SV.conc_congr hsame (h.ok t u hu)]

theorem opr_wf {E : List (Nat × SV)} {n : Nat} (h : ∀ t sv, look E t = some sv → sv.ok n) {x : Operand} {sv : SV} (hx : opr E x = some sv) : sv.ok n := by
  cases x with
  | tmp t => exact h t sv hx
  | const v => simp only [opr, Option.some.injEq] at hx; subst hx; trivial
  | global g => cases hx
  | func f => simp only [opr, Option.some.injEq] at hx; subst hx; trivial
theorem o1_wf {E : List (Nat × SV)} {n : Nat} (h : ∀ t sv, look E t = some sv → sv.ok n) {x : Operand} {k : SV → Option (Prop × SV)} {p : Prop} {sv : SV} (hl : o1 E x k = some (p, sv)) : ∃ sx q, SV.ok n sx ∧ k sx = some (q, sv) := by
  unfold o1 at hl
  split at hl
  · rename_i sx hx
    obtain ⟨r, hr, he⟩ := Option.map_eq_some_iff.1 hl
    cases he
    exact ⟨sx.str, r.1, SV.ok_str (opr_wf h hx), hr⟩
  · cases hl
theorem moveSV_wf {p q : SV} {n k : Nat} (h : moveSV p k = some q) (hp : p.ok n) : q.ok n := by
  cases p <;> cases h <;> first | exact hp | trivial
theorem idxSV_wf {x q : SV} {j : Int} {sz n : Nat} {p : Prop} (h : idxSV x j sz = some (p, q)) (hp : x.ok n) : q.ok n := by
  unfold idxSV at h
  split at h
  · cases h; exact hp
  · split at h <;> cases h; trivial
  · cases h
theorem ov_wf {E : List (Nat × SV)} {x : Operand} {k : Value → Option (Prop × SV)} {p : Prop} {sv : SV} (hl : ov E x k = some (p, sv)) : ∃ v q, k v = some (q, sv) := by
  unfold ov o1 at hl
  split at hl
  · obtain ⟨r, hr, he⟩ := Option.map_eq_some_iff.1 hl
    cases he
    dsimp only at hr
    split at hr
    · exact ⟨_, _, hr⟩
    · cases hr
  · cases hl
theorem map_val {β : Type} {o : Option β} {f : β → Prop} {g : β → Value} {p : Prop} {sv : SV} (h : o.map (fun r => (f r, SV.val (g r))) = some (p, sv)) (n : Nat) : sv.ok n := by
  obtain ⟨r, _, he⟩ := Option.map_eq_some_iff.1 h
  cases he; trivial
theorem light_wf {n : Nat} (h : ∀ t sv, look s.E t = some sv → sv.ok n) {op : Op} {p : Prop} {sv : SV} (hl : lightS P s op = some (p, sv)) : sv.ok n := by
  have hnil : ∀ {tp neq : Bool} {x y : SV} {p : Prop}, nilCmp tp neq x y = some (p, sv) → sv.ok n := by
    intro tp neq x y p hn
    unfold nilCmp at hn
    split at hn
    · split at hn
      · split at hn
        · cases hn; trivial
        · split at hn <;> cases hn <;> trivial
      · cases hn
    · cases hn
  cases op <;> simp only [lightS] at hl <;> try (cases hl; done)
  case move x =>
    split at hl
    · rename_i sx hx; cases hl; exact opr_wf h hx
    · cases hl
  case assign x =>
    split at hl
    · rename_i sx hx; cases hl; exact opr_wf h hx
    · cases hl
  case pick c x y =>
    obtain ⟨v, q, h1⟩ := ov_wf hl
    split at h1
    · split at h1
      · split at h1
        · cases h1; trivial
        · cases h1
      · cases h1
    · cases h1
  case binOp op T x y T' =>
    obtain ⟨sx, q, _, h1⟩ := o1_wf h hl
    obtain ⟨sy, q', _, h3⟩ := o1_wf h h1
    split at h3
    · split at h3
      · cases h3; trivial
      · split at h3
        · cases h3; trivial
        · split at h3
          · exact hnil h3
          · exact hnil h3
          · cases h3
    · split at h3
      · exact hnil h3
      · exact hnil h3
      · cases h3
  case unOp op T x =>
    obtain ⟨v, q, h1⟩ := ov_wf hl
    exact map_val (f := fun _ => True) (g := id) h1 n
  case convert S T x =>
    split at hl
    · obtain ⟨v, q, h1⟩ := ov_wf hl
      split at h1 <;> cases h1; trivial
    · split at hl
      · obtain ⟨v, q, h1⟩ := ov_wf hl
        exact map_val (f := fun _ => True) (g := id) h1 n
      · cases hl
    · cases hl
  case slice T x lo hi mx =>
    have hb : ∀ {y : Option Operand} {d : Int} {k : Int → Option (Prop × SV)} {p : Prop}, bnd s.E y d k = some (p, sv) → ∃ j q, k j = some (q, sv) := by
      intro y d k p hn
      unfold bnd at hn
      split at hn
      · exact ⟨_, _, hn⟩
      · obtain ⟨v, q, h1⟩ := ov_wf hn
        split at h1
        · exact ⟨_, _, h1⟩
        · cases h1
    cases mx with
    | some mx => simp only [lightS] at hl; cases hl
    | none =>
    simp only [lightS] at hl
    split at hl
    · obtain ⟨v, q, h1⟩ := ov_wf hl
      split at h1
      · obtain ⟨j, q', h2⟩ := hb h1
        obtain ⟨j', q'', h3⟩ := hb h2
        cases h3; trivial
      · cases h1
    · cases hl
  case extract x i =>
    obtain ⟨v, q, h1⟩ := ov_wf hl
    split at h1
    · exact map_val (f := fun _ => True) (g := id) h1 n
    · cases h1
  case nilCheck x =>
    obtain ⟨sx, q, h0, h1⟩ := o1_wf h hl
    split at h1 <;> cases h1
    · trivial
    · exact h0
  case fieldAddr S x f =>
    split at hl
    · obtain ⟨sx, q, h0, h1⟩ := o1_wf h hl
      obtain ⟨r, hr, he⟩ := Option.map_eq_some_iff.1 h1
      cases he; exact moveSV_wf hr h0
    · cases hl
  case indexAddr T x i =>
    obtain ⟨v, q, h1⟩ := ov_wf hl
    split at h1
    · split at h1
      · obtain ⟨sx, q, h0, h2⟩ := o1_wf h h1
        exact idxSV_wf h2 h0
      · split at h1
        · obtain ⟨sx, q, h0, h2⟩ := o1_wf h h1
          obtain ⟨r, hr, he⟩ := Option.map_eq_some_iff.1 h2
          cases he; exact moveSV_wf hr h0
        · cases h1
    · cases h1
  case index T x i =>
    obtain ⟨v, q, h1⟩ := ov_wf hl
    split at h1
    · obtain ⟨v, q, h2⟩ := ov_wf h1
      split at h2
      · split at h2 <;> cases h2; trivial
      · split at h2
        · split at h2
          · split at h2 <;> cases h2; trivial
          · cases h2
        · cases h2
      · cases h2
    · cases h1
  case field T x f =>
    split at hl
    · obtain ⟨v, q, h1⟩ := ov_wf hl
      split at h1
      · split at h1 <;> cases h1; trivial
      · cases h1
    · cases hl
  case load T x =>
    split at hl
    · obtain ⟨sx, q, h0, h1⟩ := o1_wf h hl
      split at h1
      · exact map_val (f := fun _ => goodVal sx) (g := id) h1 n
      · cases h1
    · cases hl
  case build T parts =>
    split at hl
    · rename_i q vs _; exact map_val (f := fun _ => q) (g := id) hl n
    · cases hl
  case makeFunc fn first capt =>
    split at hl
    · cases hl; trivial
    · cases hl
  case call c =>
    obtain ⟨callee, args, argTypes⟩ := c
    cases callee with
    | value f => cases hl
    | invoke r n => cases hl
    | builtin b =>
      cases b <;> simp only [lightS] at hl <;> try (cases hl; done)
      case len =>
        split at hl
        · split at hl
          · obtain ⟨sx, q, h0, h1⟩ := o1_wf h hl
            split at h1
            · exact map_val (f := fun _ => True) (g := fun (n : Nat) => .int .i64 n) h1 n
            · cases h1; trivial
            · cases h1
          · split at hl
            · obtain ⟨v, q, h1⟩ := ov_wf hl
              exact map_val (f := fun _ => True) (g := fun (n : Nat) => .int .i64 n) h1 n
            · cases hl
        · cases hl
      case min =>
        split at hl
        · obtain ⟨v, q, h1⟩ := ov_wf hl
          obtain ⟨v', q', h2⟩ := ov_wf h1
          exact map_val (f := fun _ => True) (g := id) h2 n
        · cases hl
      case max =>
        split at hl
        · obtain ⟨v, q, h1⟩ := ov_wf hl
          obtain ⟨v', q', h2⟩ := ov_wf h1
          exact map_val (f := fun _ => True) (g := id) h2 n
        · cases hl

/-! ### the operations -/
theorem wanted_none {ops : Array Oper} {o : Oper} (hg : o.guard = none) (t : Array Value) : Region.wanted o (yielded ops t) = true := by simp [Region.wanted, hg]

theorem lightOp {o : Oper} {K : St → Prop} {p : Prop} {sv : SV} (hd : dstOk o.dst N = true) (hl : lightS P s o.op = some (p, sv)) (hp : p) (hK : K (s.put o.dst sv)) : SemOp P N o s K := by
  intro w0 m0 a w lam Q hi
  unfold Oper.wp
  rw [light_ok hi.rd hl hp]
  exact ⟨_, lam, hi.put hd (light_wf hi.ok hl), hK, Fr.same (St.put_L ..) (St.put_m ..)⟩

theorem zeros_eq (z : List Value) (sz : Nat) (hz : z.length = sz) (h0 : 0 < sz) : ∀ n : Nat, (List.range (n * sz)).map (fun x => z.toArray[x % z.toArray.size]!) = (List.replicate n z).flatten := by
  intro n
  induction n with
  | zero => simp
  | succ n ih =>
    rw [Nat.succ_mul, Nat.add_comm, List.range_add, List.map_append, List.map_map, List.replicate_succ, List.flatten_cons]
    congr 1
    · apply List.ext_getElem
      · simp [hz]
      · intro i h1 h2
        have hi : i < z.length := h2
        simp [Nat.mod_eq_of_lt hi, hi]
    · rw [← ih]
      apply List.map_congr_left
      intro x hx
      simp [hz, Nat.add_mod_left]
theorem wpH_sound {o : Oper} {K : St → Prop} (hd : dstOk o.dst N = true) (h : wpH P N o s K) : SemOp P N o s K := by
  unfold wpH at h
  split at h
  · -- box
    rename_i T x hop
    split at h
    · rename_i v hx
      intro w0 m0 a w lam Q hi
      unfold Oper.wp
      have hrun : (execOp a.eval o).run P w = .ok (.value (.pointer (some ⟨w.heap.size, 0, none⟩))) (w.alloc (.cells v.cells T)) := by
        have he : a.eval x = v := opr_ok hi.rd hx
        have hnew : (newObj (.cells v.cells T)).run P w = .ok w.heap.size (w.alloc (.cells v.cells T)) := rfl
        simp [execOp, hop, he, Instr.box, newVar, newRow, hnew, Result.andThen]
      rw [hrun]
      obtain ⟨lam', h', hfr⟩ := hi.addLoc hd T v.cells.toList (fun k => .loc k 0) (.pointer (some ⟨w.heap.size, 0, none⟩)) (Nat.lt_succ_self _) (fun lam' hl => by simp [SV.conc, hl])
      exact ⟨_, lam', h', h, hfr⟩
    · exact h
  · -- alloc
    rename_i T hop
    split at h
    · rename_i z hz
      obtain ⟨i, v, hi', hzz, hc⟩ := tzero_ok hz
      intro w0 m0 a w lam Q hi
      unfold Oper.wp
      have hrun : (execOp a.eval o).run P w = .ok (.value (.pointer (some ⟨w.heap.size, 0, none⟩))) (w.alloc (.cells v.cells T)) := by
        have hnew : (newObj (.cells v.cells T)).run P w = .ok w.heap.size (w.alloc (.cells v.cells T)) := rfl
        simp [execOp, hop, Instr.alloc, newVar, newRow, hnew, Result.andThen, run_zeroValue' hi' hzz]
      rw [hrun]
      obtain ⟨lam', h', hfr⟩ := hi.addLoc hd T z (fun k => .loc k 0) (.pointer (some ⟨w.heap.size, 0, none⟩)) (Nat.lt_succ_self _) (fun lam' hl => by simp [SV.conc, hl])
      have : z.toArray = v.cells := by rw [← hc]
      rw [← this]; exact ⟨_, lam', h', h, hfr⟩
    · exact h
  · -- store
    rename_i T x y hop
    split at h
    · rename_i n ag k off v ht hx hy
      split at h
      · rename_i hn
        split at h
        · rename_i L hL
          intro w0 m0 a w lam Q hi
          obtain ⟨i, d, hi', hsz, hd', _⟩ := tinfo_ok ht
          unfold setLoc at hL
          split at hL
          · rename_i T' cs hk
            split at hL
            · rename_i hle
              cases hL
              have ex : a.eval x = .pointer (some ⟨lam k, off, none⟩) := opr_ok hi.rd hx
              have ey : a.eval y = v := opr_ok hi.rd hy
              have hw := hi.loc k T' cs hk
              have hone : ∀ u ∈ v.cells.toList, u.oneCell' = true := fun u hu => List.all_eq_true.1 hn.2 u hu
              have hrun := run_storeCells_at (P := P) (lam k) off T' v.cells.toList 0 cs.toArray w hw (by simpa using hle) hone
              have hexec : (execOp a.eval o).run P w = .ok .skip (w.setRow (lam k) (overlay cs off v.cells.toList).toArray) := by
                have hns : ¬ (v.cells.size ≠ i.size) := by rw [hsz]; have := hn.1; simpa using this
                simp only [execOp, hop, ex, ey, Instr.storeAt, Instr.sureAddr, storeVar, Sem.run_bind, Sem.run_pure, Result.andThen_ok, run_sizeOf' hi', if_neg hns]
                rw [hrun]; simp [overlay, Result.andThen]
              unfold Oper.wp
              rw [hexec]
              have hkl : k < s.L.length := (List.getElem?_eq_some_iff.1 hk).1
              have hblk : ∀ b, b ≠ lam k → (w.setRow (lam k) (overlay cs off v.cells.toList).toArray).heap[b]? = w.heap[b]? := fun b hb => by
                simp [World.setRow, Array.getElem?_modify, Ne.symm hb]
              have hself : (w.setRow (lam k) (overlay cs off v.cells.toList).toArray).heap[lam k]? = some (.cells (overlay cs off v.cells.toList).toArray T' (0, 0)) := by
                simp [World.setRow, Array.getElem?_modify, hw]
              have hal : s.al k := ⟨_, hk⟩
              have hfr := hi.sep k hal
              have hset : ∀ {j : Nat} {E : List (Nat × SV)}, St.al ⟨E, s.L.set k (some (T', overlay cs off v.cells.toList)), s.m⟩ j → s.al j := fun {j E} hj => by
                obtain ⟨x, hx⟩ := hj
                by_cases he : k = j
                · subst he; exact hal
                · have hx : (s.L.set k (some (T', overlay cs off v.cells.toList)))[j]? = some (some x) := hx
                  rw [List.getElem?_set_ne he] at hx; exact ⟨x, hx⟩
              have hne : ∀ b, ¬ s.m.fresh b → b ≠ lam k := fun b hb he => hb (he ▸ hfr)
              have hinv : Inv w0 m0 N a (w.setRow (lam k) (overlay cs off v.cells.toList).toArray) ⟨s.E, s.L.set k (some (T', overlay cs off v.cells.toList)), s.m⟩ lam := by
                refine ⟨hi.defers, hi.size, hi.env, by simpa using hi.ok, fun j T'' cs' hj => ?_, fun i j hi' hj' => hi.inj i j (hset hi') (hset hj'), fun i hi' => hi.sep i (hset hi'), fun i hi' => hi.old i (hset hi'), ?_, ?_⟩
                · have hj : (s.L.set k (some (T', overlay cs off v.cells.toList)))[j]? = some (some (T'', cs')) := hj
                  by_cases he : k = j
                  · subst he
                    rw [List.getElem?_set_self hkl] at hj; cases hj
                    exact hself
                  · rw [List.getElem?_set_ne he] at hj
                    rw [hblk _ (fun h' => he (hi.inj j k ⟨_, hj⟩ hal h').symm)]
                    exact hi.loc j T'' cs' hj
                · refine ⟨fun b o' u hc => ?_, fun b T2 n2 c2 hc => ?_, fun b u hc => ?_⟩
                  · have hb := hne b (fun hf => by rw [hf.1 o'] at hc; cases hc)
                    have := hi.sat.cell b o' u hc
                    unfold World.cell? at this ⊢
                    simpa only [hblk b hb] using this
                  · have hb := hne b (fun hf => by rw [hf.2.1] at hc; cases hc)
                    rw [hblk b hb]; exact hi.sat.own b T2 n2 c2 hc
                  · have hb := hne b (fun hf => by rw [hf.2.2] at hc; cases hc)
                    rw [hblk b hb]; exact hi.sat.obj b u hc
                · have hold := hi.old k hal
                  refine hi.frm.trans' ?_ ?_ ?_ ?_ (fun b hb => ?_)
                  · rfl
                  · rfl
                  · rfl
                  · simp [World.setRow]
                  · exact hblk b (by omega)
              refine ⟨_, lam, hinv.put (sv := .val undef) hd trivial, h, ⟨fun _ _ => rfl, by simp [World.setRow], fun b hb _ h2 => hblk b (Ne.symm (h2 k hal)), fun b hb h1 h2 => ?_, fun t ht => Act.put_other ht⟩⟩
              rw [St.put_m]
              exact ⟨h1, fun j hj => h2 j (hset (E := s.E) (St.al_of (St.put_L _ _ _) hj))⟩
            · cases hL
          · cases hL
        · exact h
      · exact h
    · exact h
  · -- buildSlice
    rename_i T len parts hop
    split at h
    · rename_i e sz by' p vs ht hv
      split at h
      · rename_i z hz
        split at h
        · rename_i cs hcs
          obtain ⟨⟨hzl, h0, hlim⟩, hp, h⟩ := h
          obtain ⟨ie, hu, hie, rfl, _⟩ := telem_ok ht
          obtain ⟨i', zv, hi', hzz, hc⟩ := tzero_ok hz
          rw [hie] at hi'; cases hi'
          intro w0 m0 a w lam Q hi
          unfold Oper.wp
          have hvs := vals_ok hi.rd hv hp
          have hpa : (Array.map (fun (x : Nat × Operand) => match x with | (i, x) => (i, a.eval x)) parts).toList = (parts.toList.map (·.1)).zip vs := by
            rw [Array.toList_map, ← hvs]
            simp only [List.map_map]
            generalize parts.toList = l
            induction l with
            | nil => rfl
            | cons x r ih => simp [ih]
          have hrow : (Array.map (fun x => zv.cells[x % zv.cells.size]!) (Array.range (len * ie.size))).toList = (List.replicate len z).flatten := by
            rw [← zeros_eq z ie.size hzl h0 len]
            rw [Array.toList_map, Array.toList_range]
            have : z.toArray = zv.cells := by rw [← hc]
            rw [this]
          rw [← hrow] at hcs
          have hfl := fillL_ok hcs
          have hrun : (execOp a.eval o).run P w = .ok (.value (.slice (some ⟨w.heap.size, 0, none⟩) len len)) (w.alloc (.cells cs.toArray e)) := by
            have hnew : (newObj (.cells cs.toArray e)).run P w = .ok w.heap.size (w.alloc (.cells cs.toArray e)) := rfl
            have hl1 : ¬ (len * ie.size > 2 ^ 24) := by omega
            simp only [execOp, hop]
            unfold Instr.buildSlice
            simp only [Sem.run_bind, run_underlying hu, Result.andThen_ok, run_sizeOf' hie, if_neg hl1]
            by_cases hls : len * ie.size = 0
            · have hl0 : len = 0 := by
                rcases Nat.mul_eq_zero.1 hls with hx | hx
                · exact hx
                · omega
              subst hl0
              have e0 : ∀ f : Nat → Value, Array.map f (Array.range 0) = #[] := fun f => by simp
              simp only [Nat.zero_mul, e0] at hfl
              simp only [hfl, Nat.zero_mul, if_true, Sem.run_bind, Sem.run_pure, Result.andThen_ok, hpa, e0, newRow, hnew]
            · simp only [if_neg hls, Sem.run_bind, run_zeroValue' hie hzz, Sem.run_pure, Result.andThen_ok, hpa, hfl, newRow, hnew]
          rw [hrun]
          obtain ⟨lam', h', hfr⟩ := hi.addLoc hd e cs (fun k => .lsl k len) (.slice (some ⟨w.heap.size, 0, none⟩) len len) (Nat.lt_succ_self _) (fun lam' hl => by simp [SV.conc, hl])
          exact ⟨_, lam', h', h, hfr⟩
        · exact h
      · exact h
    · exact h
  · -- call
    rename_i fo args tys hop
    split at h
    · rename_i f first capt p vs hf hv
      obtain ⟨hp, hcall, hcc⟩ := h
      intro w0 m0 a w lam Q hi
      have ef : a.eval fo = .func (.func f) first capt := opr_ok hi.rd hf
      have ev : args.map a.eval = vs.toArray := by
        have := vals_ok hi.rd hv hp
        apply Array.ext'; simpa using this
      have hexec : (execOp a.eval o).run P w = .ok (.enter f (first.toList ++ vs ++ capt.toList).toArray) w := by
        unfold callable at hcall
        split at hcall
        · rename_i fn hfn
          simp only [Bool.and_eq_true, Bool.not_eq_true'] at hcall
          have hb : fn.body.isNone = false := by cases hx : fn.body <;> simp_all
          have hne : ¬ fn.name = "runtime.NumGoroutine" := by simpa using hcall.2
          have hnb : ¬ fn.body = none := by intro h'; rw [h'] at hb; cases hb
          simp [execOp, hop, resolve, ef, ev, Deferred.ofValue, invoke, callFunc, hfn, hne, hnb]
        · cases hcall
      unfold Oper.wp
      rw [hexec]
      refine (hcc w hi.sat).mono ?_
      rintro e w' ⟨m', hs', hf', v, rfl, hk⟩
      have hlt : ∀ k, s.al k → lam k < w.heap.size := fun k ⟨⟨T', cs'⟩, hx⟩ => (Array.getElem?_eq_some_iff.1 (hi.loc k T' cs' hx)).1
      have hinv : Inv w0 m0 N a w' ⟨s.E, s.L, m'⟩ lam := by
        refine ⟨hi.defers, hi.size, hi.env, hi.ok, fun k T cs hk => ?_, hi.inj, fun k hk => hf'.dom _ (hlt k hk) (hi.sep k hk), hi.old, hs', hi.frm.trans hf'⟩
        have hkl : s.al k := ⟨_, hk⟩
        have hfr := hi.sep k hkl
        rw [hf'.keep _ (hlt k hkl) hfr.2.1 hfr.2.2]
        exact hi.loc k T cs hk
      refine ⟨_, lam, hinv.put (sv := .val v) hd trivial, hk, ⟨fun _ _ => rfl, hf'.size, fun b hb h1 _ => hf'.keep b hb h1.2.1 h1.2.2, fun b hb h1 h2 => ?_, fun t ht => Act.put_other ht⟩⟩
      rw [St.put_m]
      exact ⟨hf'.dom b hb h1, fun k hk => h2 k (St.al_of (s' := (St.mk s.E s.L m').put o.dst (.val v)) (St.put_L _ _ _) hk)⟩
    · exact h
  · exact h
end
end Go.FL
