/- The facts logic, part D: light operations yield what is said of them. -/
import Derived.Test.YtcidapidlgdacaaGreatFlC
import Derived.Laws.Cells
import Derived.Laws.Entries
import Derived.Laws.Slices
import Derived.ChangeKeysEq
import Derived.WideLaws
set_option linter.unusedVariables false
set_option linter.unusedSimpArgs false
namespace Go.FL
section
variable {P : Program} {a : Act} {w : World} {s : St} {lam : Nat → Nat}

theorem o1_ok (h : Rd a w s lam) {x : Operand} {k : SV → Option (Prop × SV)} {p : Prop} {sv : SV} (hl : o1 s.E x k = some (p, sv)) (hp : p) :
    ∃ sx q, a.eval x = sx.conc lam ∧ k sx = some (q, sv) ∧ q := by
  unfold o1 at hl
  split at hl
  · rename_i sx hx
    cases hk : k sx.str with
    | none => rw [hk] at hl; cases hl
    | some r =>
      rw [hk] at hl; obtain ⟨q, sv'⟩ := r; cases hl
      exact ⟨sx.str, q, by rw [opr_ok h hx, SV.conc_str hp.1], hk, hp.2⟩
  · cases hl
theorem ov_ok (h : Rd a w s lam) {x : Operand} {k : Value → Option (Prop × SV)} {p : Prop} {sv : SV} (hl : ov s.E x k = some (p, sv)) (hp : p) :
    ∃ q, k (a.eval x) = some (q, sv) ∧ q := by
  obtain ⟨sx, q, h1, h2, h3⟩ := o1_ok h hl hp
  cases sx <;> simp only at h2 <;> first | (cases h2; done) | skip
  rename_i v
  rw [h1]; exact ⟨q, h2, h3⟩

theorem tinfo_ok {T n : Nat} {ag : Bool} (h : tinfo P T = some (n, ag)) : ∃ i d, P.info? T = some i ∧ i.size = n ∧ P.underlying T = some d ∧ isAggD d = ag := by
  unfold tinfo at h
  split at h
  · rename_i i d hi hd; cases h; exact ⟨i, d, hi, rfl, hd, rfl⟩
  · cases h
theorem run_sizeOf' {T : TypeId} {i : TypeInfo} (h : P.info? T = some i) (w : World) : (Go.sizeOf T).run P w = .ok i.size w := by
  simp [Go.sizeOf, typeInfo, h]
theorem run_isAgg' {T : TypeId} {d : TypeDesc} (h : P.underlying T = some d) (w : World) : (isAgg T).run P w = .ok (isAggD d) w := by
  unfold isAgg
  rw [Sem.run_bind, run_underlying h]
  cases d <;> simp [Result.andThen, isAggD]

theorem Mem.rd_get {m : Mem} {b : Nat} : ∀ {n o : Nat} {cs : List Value}, m.rd b o n = some cs → cs.length = n ∧ ∀ j v, cs[j]? = some v → m.cell b (o + j) = some v := by
  intro n
  induction n with
  | zero => intro o cs h; simp [Mem.rd] at h; subst h; simp
  | succ n ih =>
    intro o cs h
    simp only [Mem.rd, List.range'_succ, List.mapM_cons, Option.pure_def, Option.bind_eq_bind] at h
    obtain ⟨v, hv, h⟩ := Option.bind_eq_some_iff.1 h
    obtain ⟨r, hr, h⟩ := Option.bind_eq_some_iff.1 h
    cases h
    obtain ⟨h1, h2⟩ := ih hr
    refine ⟨by simp [h1], fun j u hu => ?_⟩
    cases j with
    | zero => simpa using (by simpa using hu : v = u) ▸ hv
    | succ j => have := h2 j u (by simpa using hu); rwa [show o + (j + 1) = o + 1 + j by omega]
theorem rdA_ok (h : Sat w s.m) {A : Option Addr} {n : Nat} {cs : List Value} (hr : rdA s.m A n = some cs) (hsp : ∀ a, A = some a → a.spot = none) : ∃ a, A = some a ∧ cs.length = n ∧ ∀ j v, cs[j]? = some v → w.cell? (a.add j) = some v := by
  unfold rdA at hr
  split at hr
  · rename_i a
    obtain ⟨h1, h2⟩ := Mem.rd_get hr
    refine ⟨a, rfl, h1, fun j v hj => ?_⟩
    have := h.cell _ _ _ (h2 j v hj)
    have hs := hsp a rfl
    obtain ⟨b, o, sp⟩ := a
    simp only at hs; subst hs
    unfold Addr.add; split <;> simp_all
  · cases hr
theorem ptrAddr_spot {v : Value} {o : Nat} : ∀ a, ptrAddr v o = some a → a.spot = none := by
  intro a h; unfold ptrAddr at h; split at h <;> cases h; rfl
theorem eltAddr_spot {v : Value} {i : Int} {sz o : Nat} : ∀ a, eltAddr v i sz o = some a → a.spot = none := by
  intro a h; unfold eltAddr at h; split at h <;> cases h; rfl
theorem rdSV_ok (h : Rd a w s lam) {p : SV} {n : Nat} {cs : List Value} (hr : rdSV s p n = some cs) (hg : goodVal p) :
    ∃ ad, p.conc lam = .pointer (some ad) ∧ cs.length = n ∧ ∀ j v, cs[j]? = some v → w.cell? (ad.add j) = some v := by
  cases p with
  | loc k off =>
    simp only [rdSV, rdLoc] at hr
    split at hr
    · rename_i T c hk
      split at hr
      · rename_i hle; cases hr
        refine ⟨_, rfl, by simp; omega, fun j v hj => ?_⟩
        have hw := h.loc k T c hk
        have hj' : j < n := by
          have := (List.getElem?_eq_some_iff.1 hj).1; simp at this; omega
        rw [List.getElem?_take_of_lt hj', List.getElem?_drop] at hj
        have ha : (⟨lam k, off, none⟩ : Addr).add j = ⟨lam k, off + j, none⟩ := by unfold Addr.add; split <;> simp_all
        rw [ha]; simp only [World.cell?, hw]
        simpa using hj
      · cases hr
    · cases hr
  | elt v i sz off =>
    obtain ⟨ad, h1, h2, h3⟩ := rdA_ok h.sat hr eltAddr_spot
    exact ⟨ad, by simp [SV.conc, h1], h2, h3⟩
  | ptr v off =>
    obtain ⟨ad, h1, h2, h3⟩ := rdA_ok h.sat hr ptrAddr_spot
    exact ⟨ad, by simp [SV.conc, h1], h2, h3⟩
  | val v =>
    obtain ⟨ad, h1, h2, h3⟩ := rdA_ok h.sat hr ptrAddr_spot
    obtain ⟨b, o, rfl⟩ := hg
    simp only [ptrAddr] at h1; cases h1
    exact ⟨_, rfl, h2, h3⟩
  | lsl k n => cases hr
  | gd b s => cases hr

theorem run_loadVar_cells {T n : Nat} {ag : Bool} (ht : tinfo P T = some (n, ag)) {cs : List Value} {v : Value} (hm : mkVal ag cs = some v) (hl : cs.length = n) (ad : Addr) (hc : ∀ j u, cs[j]? = some u → w.cell? (ad.add j) = some u) :
    (loadVar T ad).run P w = .ok v w := by
  obtain ⟨i, d, hi, hs, hd, ha⟩ := tinfo_ok ht
  unfold loadVar
  rw [Sem.run_bind, run_isAgg' hd, ha]
  unfold mkVal at hm
  cases ag with
  | true =>
    simp only [if_true] at hm; cases hm
    simp only [Result.andThen, if_true, Sem.run_bind, run_sizeOf' hi]
    have := run_loadCells_list (P := P) (w := w) ad cs hc
    rw [hl] at this; rw [hs, this]; rfl
  | false =>
    simp only [Bool.false_eq_true, if_false] at hm
    split at hm
    · rename_i u; cases hm
      have := hc 0 v rfl
      have h0 : ad.add 0 = ad := by simp [Addr.add]
      rw [h0] at this
      simp [Result.andThen, this]
    · cases hm
end
end Go.FL
