/- The facts logic, part H: the run is sound; functions; calls; loops. -/
import Derived.Test.YtcidapidlgdacaaGreatFlG
set_option linter.unusedVariables false
set_option linter.unusedSimpArgs false
namespace Go.FL
section
variable {P : Program} {N : Nat} {s : St}

theorem wpX_sound {o : Oper} {K : St → Prop} (hd : dstOk o.dst N = true) (h : wpX P N o s K) : SemOp P N o s K := by
  unfold wpX at h
  split at h
  · rename_i p sv hl; exact lightOp hd hl h.1 h.2
  · exact wpH_sound hd h
theorem SemOp.mono {o : Oper} {K K' : St → Prop} (h : SemOp P N o s K) (hk : ∀ s, K s → K' s) : SemOp P N o s K' :=
  fun w0 m0 a w lam Q hi => Oper.wp_mono (fun a' w' ⟨s', lam', h1, h2, h3⟩ => ⟨s', lam', h1, hk _ h2, h3⟩) (h w0 m0 a w lam Q hi)
theorem SemCode.mono {c : Code} {K K' : Exit → St → Prop} (h : SemCode P N c K s) (hk : ∀ e s, K e s → K' e s) : SemCode P N c K' s :=
  fun w0 m0 a w lam hi => Code.wp_mono (fun e a' w' ⟨s', lam', h1, h2⟩ => ⟨s', lam', h1, hk _ _ h2⟩) (h w0 m0 a w lam hi)

theorem Inv.regd {w0 : World} {m0 : Mem} {a : Act} {w : World} {lam : Nat → Nat} {s' : St} {d : Option Tmp} {v : Value} (h : Inv w0 m0 N a w (s'.put d (.val v)) lam) : Inv w0 m0 N a w (s'.put d (.gd true (.val v))) lam := by
  cases d with
  | none => exact h
  | some d =>
    refine ⟨h.defers, h.size, fun t sv ht => ?_, fun t sv ht => ?_, h.loc, h.inj, h.sep, h.old, h.sat, h.frm⟩
    · simp only [St.put, look] at ht
      split at ht
      · rename_i he; subst he; cases ht
        simpa [SV.conc] using h.env d (.val v) (by simp [St.put, look])
      · rename_i he; exact h.env t sv (by simp only [St.put, look, if_neg he]; exact ht)
    · simp only [St.put, look] at ht
      split at ht
      · cases ht; trivial
      · rename_i he; exact h.ok t sv (by simp only [St.put, look, if_neg he]; exact ht)
theorem Fr.regd {s s' : St} {lam lam' : Nat → Nat} {d : Option Tmp} {a a' : Act} {w w' : World} {v : Value} (h : Fr s (s'.put d (.val v)) lam lam' d a a' w w') : Fr s (s'.put d (.gd true (.val v))) lam lam' d a a' w w' := by
  cases d with
  | none => exact h
  | some d => exact ⟨h.lamk, h.size, h.keep, fun b hb h1 h2 => ⟨(h.out b hb h1 h2).1, fun k hk => (h.out b hb h1 h2).2 k hk⟩, h.tmps⟩
theorem wpGC_H {o : Oper} {fo : Operand} {args : Array Operand} {tys : Array TypeId} {f : FuncId} {first capt : Array Value} {p : Prop} {vs : List Value} {K : St → Prop}
    (hop : o.op = .call { callee := .value fo, args := args, argTypes := tys }) (h1 : opr s.E fo = some (.val (.func (.func f) first capt))) (h2 : vals s.E args.toList = some (p, vs)) (h : p ∧ wpCall P f (first.toList ++ vs ++ capt.toList) o.dst s K) : wpH P N o s K := by
  simp only [wpH, hop, h1, h2]; exact h
/-- one operation of a region, wanted or not -/
theorem wpO_step {ops : Array Oper} {o : Oper} {K : St → Prop} (h : wpO P ops N o s K) {w0 : World} {m0 : Mem} {a : Act} {w : World} {lam : Nat → Nat} (hi : Inv w0 m0 N a w s lam) (Q : Exit → Act → World → Prop) :
    if Region.wanted o (yielded ops a.tmps) = true then o.wp P a w (After w0 m0 N K s lam o.dst a w) Q else After w0 m0 N K s lam o.dst a w (a.put o.dst undef) w := by
  obtain ⟨hd, h⟩ := h
  split at h
  · rename_i hg
    rw [if_pos (wanted_none hg _)]
    exact wpX_sound hd h w0 m0 a w lam Q hi
  · rename_i j want hg
    split at h
    · rename_i g hgj
      split at h
      · rename_i b hb
        have hw := wanted_of (o := o) hi.env hg hgj hb
        rw [hw]
        unfold wpG at h
        split at h
        · rename_i p sv hl
          split
          · rename_i hc
            rw [hc] at h
            have := lightOp (K := fun s' => K (s.put o.dst (.gd true sv))) hd hl (h.1 rfl) h.2 w0 m0 a w lam Q hi
            unfold Oper.wp at this ⊢
            rw [light_ok hi.rd hl (h.1 rfl)] at this ⊢
            refine ⟨_, lam, ?_, h.2, Fr.same (St.put_L ..) (St.put_m ..)⟩
            exact hi.put (sv := .gd true sv) hd (light_wf (sv := sv) hi.ok hl)
          · rename_i hc
            have hc' : b = false := by simpa using hc
            rw [hc'] at h
            exact ⟨_, lam, hi.put (sv := .gd false sv) hd (light_wf (sv := sv) hi.ok hl), h.2, Fr.same (St.put_L ..) (St.put_m ..)⟩
        · have plain : (b = true → wpH P N o s K) ∧ (b = false → K (s.put o.dst (.val undef))) →
              if b = true then o.wp P a w (After w0 m0 N K s lam o.dst a w) Q else After w0 m0 N K s lam o.dst a w (a.put o.dst undef) w := by
            intro h
            split
            · rename_i hc; exact wpH_sound hd (h.1 hc) w0 m0 a w lam Q hi
            · rename_i hc
              have hc' : b = false := by simpa using hc
              exact ⟨_, lam, hi.put (sv := .val undef) hd trivial, h.2 hc', Fr.same (St.put_L ..) (St.put_m ..)⟩
          split at h
          · rename_i fo args tys hop
            split at h
            · rename_i f first capt p vs h1 h2
              rcases h with h | ⟨r, h3, h4⟩
              · exact plain ⟨fun hc => wpGC_H hop h1 h2 (h.1 hc), h.2⟩
              · split
                · rename_i hc
                  rw [hc] at h4
                  obtain ⟨hp, hcc⟩ := h3 hc
                  have hw := wpGC_H (K := fun s' => s' = s.put o.dst (.val r)) (N := N) hop h1 h2 ⟨hp, hcc.mono fun e m' ⟨k1, k2⟩ => ⟨r, k1, by subst k2; rfl⟩⟩
                  refine Oper.wp_mono (fun a' w' hk => ?_) (wpH_sound hd hw w0 m0 a w lam Q hi)
                  obtain ⟨s', lam', hi', rfl, hfr⟩ := hk
                  exact ⟨_, lam', hi'.regd, h4, hfr.regd⟩
                · rename_i hc
                  have hc' : b = false := by simpa using hc
                  rw [hc'] at h4
                  exact ⟨_, lam, hi.put (sv := .gd false (.val r)) hd trivial, h4, Fr.same (St.put_L ..) (St.put_m ..)⟩
            · exact plain h
          · exact plain h
      · exact h.elim
    · exact h.elim

theorem wpO_mono {ops : Array Oper} {o : Oper} {K K' : St → Prop} (hk : ∀ s, K s → K' s) (h : wpO P ops N o s K) : wpO P ops N o s K' := by
  have hH : wpH P N o s K → wpH P N o s K' := by
    intro h; unfold wpH at h ⊢
    split at h
    · split at h
      · exact hk _ h
      · exact h.mono hk
    · split at h
      · exact hk _ h
      · exact h.mono hk
    · split at h
      · split at h
        · rename_i hc
          rw [if_pos hc]
          split at h
          · exact hk _ h
          · exact h.mono hk
        · rename_i hc
          rw [if_neg hc]; exact h.mono hk
      · exact h.mono hk
    · split at h
      · split at h
        · split at h
          · exact ⟨h.1, h.2.1, hk _ h.2.2⟩
          · exact h.mono hk
        · exact h.mono hk
      · exact h.mono hk
    · split at h
      · exact ⟨h.1, h.2.mono fun e m' ⟨v, h1, h2⟩ => ⟨v, h1, hk _ h2⟩⟩
      · exact h.mono hk
    · exact h.mono hk
  obtain ⟨hd, h⟩ := h
  refine ⟨hd, ?_⟩
  split at h
  · unfold wpX at h ⊢
    split at h
    · exact ⟨h.1, hk _ h.2⟩
    · exact hH h
  · split at h
    · split at h
      · unfold wpG at h ⊢
        split at h
        · exact ⟨h.1, hk _ h.2⟩
        · split at h
          · split at h
            · rcases h with h | ⟨r, h3, h4⟩
              · exact .inl ⟨fun hc => ⟨(h.1 hc).1, (h.1 hc).2.mono fun e m' ⟨v, h1, h2⟩ => ⟨v, h1, hk _ h2⟩⟩, fun hc => hk _ (h.2 hc)⟩
              · exact .inr ⟨r, h3, hk _ h4⟩
            · exact ⟨fun hc => hH (h.1 hc), fun hc => hk _ (h.2 hc)⟩
          · exact ⟨fun hc => hH (h.1 hc), fun hc => hk _ (h.2 hc)⟩
      · exact h
    · exact h

theorem wpL_sound {ops : Array Oper} {Q : Exit → Act → World → Prop} {w0 : World} {m0 : Mem} {K : St → Prop} (hQ : ∀ a w s lam, Inv w0 m0 N a w s lam → K s → Q .normal a w) :
    ∀ (l : List Oper) (s : St) (a : Act) (w : World) (lam : Nat → Nat), Inv w0 m0 N a w s lam → wpL P ops N l K s → wpList P ops Q l a w
  | [], s, a, w, lam, hi, h => hQ _ _ s lam hi h
  | o :: r, s, a, w, lam, hi, h => by
    have h1 := wpO_step h hi Q
    unfold wpList
    have hk : ∀ a' w', After w0 m0 N (wpL P ops N r K) s lam o.dst a w a' w' → wpList P ops Q r a' w' := fun a' w' ⟨s', lam', hi', h', _⟩ => wpL_sound hQ r s' a' w' lam' hi' h'
    split
    · rename_i hw; rw [if_pos hw] at h1; exact .inl (Oper.wp_mono hk h1)
    · rename_i hw; rw [if_neg hw] at h1; exact hk _ _ h1

theorem wpC_sound : ∀ (c : Code) (K : Exit → St → Prop) (s : St), wpC P N c K s → SemCode P N c K s := by
  intro c
  induction c with
  | skip => intro K s h w0 m0 a w lam hi; exact wp_skip ⟨s, lam, hi, h⟩
  | label l => intro K s h w0 m0 a w lam hi; exact wp_label ⟨s, lam, hi, h⟩
  | region id ops d =>
    intro K s h
    cases d with
    | true => exact h
    | false =>
      intro w0 m0 a w lam hi
      exact wp_region_list (wpL_sound (fun _ _ s lam h1 h2 => ⟨s, lam, h1, h2⟩) _ s a w lam hi h)
  | seq x y ihx ihy =>
    intro K s h w0 m0 a w lam hi
    refine wp_seq (Code.wp_mono ?_ (ihx _ s h w0 m0 a w lam hi))
    rintro e a' w' ⟨s', lam', hi', h'⟩
    cases e with
    | normal => exact ihy K s' h' w0 m0 a' w' lam' hi'
    | _ => exact ⟨s', lam', hi', h'⟩
  | cond c x y ihx ihy =>
    intro K s h w0 m0 a w lam hi
    simp only [wpC] at h
    split at h
    · rename_i b hb
      have he : a.eval c = .bool b := opr_ok hi.rd hb
      exact wp_cond_split he (fun ht => ihx K s (h.1 ht) w0 m0 a w lam hi) (fun hf => ihy K s (h.2 hf) w0 m0 a w lam hi)
    · exact h.elim
  | block id c ih =>
    intro K s h w0 m0 a w lam hi
    refine wp_block (Code.wp_mono ?_ (ih _ s h w0 m0 a w lam hi))
    rintro e a' w' ⟨s', lam', hi', h'⟩
    cases e with
    | exit j =>
      simp only [Exit.inBlock] at h' ⊢
      split
      · rename_i hj; rw [if_pos hj] at h'; exact ⟨s', lam', hi', h'⟩
      · rename_i hj; rw [if_neg hj] at h'; exact ⟨s', lam', hi', h'⟩
    | _ => exact ⟨s', lam', hi', h'⟩
  | exit id => intro K s h w0 m0 a w lam hi; exact wp_exit ⟨s, lam, hi, h⟩
  | ret => intro K s h w0 m0 a w lam hi; exact wp_ret ⟨s, lam, hi, h⟩
  | loop c ih => intro K s h; exact h
  | scope c ih => intro K s h; exact h
  | rangeFunc x t c d => intro K s h; exact h
  | goto l => intro K s h; exact h
  | refuse t => intro K s h; exact h.elim

/-! ### functions -/
def resV (P : Program) (s : St) (r : ResultVar) : Option Value :=
  match r with
  | .tmp t => match look s.E t with
    | some (.val v) => some v
    | _ => none
  | .cell t T => match look s.E t, tinfo P T with
    | some sv, some (n, ag) => match sv with
      | .loc k off => match rdLoc s.L k off n with
        | some cs => mkVal ag cs
        | none => none
      | _ => none
    | _, _ => none
def resL (P : Program) (s : St) : List ResultVar → Option (List Value)
  | [] => some []
  | r :: rs => match resV P s r with
    | some v => (resL P s rs).map (v :: ·)
    | none => none
def retVal : List Value → Value
  | [v] => v
  | vs => .tuple vs.toArray
def entryL : List Value → Nat → List (Nat × SV)
  | [], _ => []
  | v :: r, i => (i, .val v) :: entryL r (i + 1)
/-- what stands at the end of a body -/
def Fin (P : Program) (rs : List ResultVar) (R : Ending → Mem → Prop) : Exit → St → Prop
  | .normal, s => match resL P s rs with
    | some vs => R (.returned (retVal vs)) s.m
    | none => False
  | .ret, s => match resL P s rs with
    | some vs => R (.returned (retVal vs)) s.m
    | none => False
  | _, _ => False

theorem look_entry : ∀ {vs : List Value} {i t : Nat} {sv : SV}, look (entryL vs i) t = some sv → ∃ v, sv = .val v ∧ i ≤ t ∧ vs[t - i]? = some v
  | [], i, t, sv, h => by cases h
  | v :: r, i, t, sv, h => by
    simp only [entryL, look] at h
    split at h
    · rename_i he; subst he; cases h; exact ⟨v, rfl, Nat.le_refl _, by simp⟩
    · rename_i he
      obtain ⟨u, h1, h2, h3⟩ := look_entry h
      refine ⟨u, h1, by omega, ?_⟩
      rw [show t - i = (t - (i + 1)) + 1 by omega]; simpa using h3
def resRun (tmps : Array Value) (r : ResultVar) : Sem Value :=
  match r with
  | .tmp t => pure (tmps.getD t undef)
  | .cell x t => do let ad ← asAddr (tmps.getD x undef); loadVar t ad
theorem resV_ok {w0 : World} {m0 : Mem} {a : Act} {w : World} {lam : Nat → Nat} (h : Inv w0 m0 N a w s lam) {r : ResultVar} {v : Value} (hr : resV P s r = some v) :
    (resRun a.tmps r).run P w = .ok v w := by
  cases r with
  | tmp t =>
    simp only [resV] at hr
    split at hr
    · rename_i u hu; cases hr
      have := h.env t _ hu
      simp only [resRun, Sem.run_pure]; rw [this]; rfl
    · cases hr
  | cell t T =>
    simp only [resV] at hr
    split at hr
    · rename_i sv n ag hsv ht
      split at hr
      · rename_i k off
        split at hr
        · rename_i cs hcs
          obtain ⟨ad, h1, h2, h3⟩ := rdSV_ok h.rd (p := .loc k off) (n := n) hcs trivial
          have := h.env t _ hsv
          simp only [resRun, this, h1]
          simp [asAddr, run_loadVar_cells ht hr h2 ad h3]
        · cases hr
      · cases hr
    · cases hr
theorem resL_ok {w0 : World} {m0 : Mem} {a : Act} {w : World} {lam : Nat → Nat} (h : Inv w0 m0 N a w s lam) : ∀ {rs : List ResultVar} {vs : List Value}, resL P s rs = some vs →
    (rs.mapM (m := Sem) (resRun a.tmps)).run P w = .ok vs w
  | [], vs, hr => by cases hr; simp
  | r :: rs, vs, hr => by
    simp only [resL] at hr
    split at hr
    · rename_i v hv
      obtain ⟨vs', hvs, he⟩ := Option.map_eq_some_iff.1 hr
      cases he
      simp only [List.mapM_cons, Sem.run_bind, resV_ok h hv, Result.andThen_ok, resL_ok h hvs, Sem.run_pure]
    · cases hr
theorem results_ok {w0 : World} {m0 : Mem} {a : Act} {w : World} {lam : Nat → Nat} (h : Inv w0 m0 N a w s lam) {fn : Func} {vs : List Value} (hr : resL P s fn.results.toList = some vs) : (results fn a.tmps).run P w = .ok (retVal vs) w := by
  have h1 := resL_ok h hr
  have e : results fn a.tmps = (do let vs ← fn.results.mapM (resRun a.tmps); pure (if h : vs.size = 1 then vs[0] else Value.tuple vs)) := by
    unfold results
    congr 1
  have e2 : fn.results = fn.results.toList.toArray := by simp
  rw [e, Sem.run_bind, e2, List.mapM_toArray, map_eq_pure_bind, Sem.run_bind, h1]
  simp only [Result.andThen_ok, Sem.run_pure]
  congr 1
  cases vs with
  | nil => rfl
  | cons v r => cases r with
    | nil => rfl
    | cons u r => simp [retVal]

/-- A body that runs to its end gives what the call is known to do. -/
theorem cc_enter {f : FuncId} {fn : Func} {c : Code} {args : List Value} {m : Mem} {R : Ending → Mem → Prop} {N : Nat} (hf : P.funcs[f]? = some fn) (hN : fn.ntmps = N) (hb : fn.body = some c) (hc : callable P f = true) (hn : (args.length ≤ N) = True)
    (h : wpC P N c (Fin P fn.results.toList R) ⟨entryL args 0, [], m⟩) : CC P f args m R := by
  subst hN
  refine ⟨hc, fun w hw => ?_⟩
  have hn : args.length ≤ fn.ntmps := of_eq_true hn
  refine calls_of_wp hf hb ?_
  have hi : Inv w m fn.ntmps { tmps := args.toArray ++ Array.replicate (fn.ntmps - args.toArray.size) undef, defers := [] } w ⟨entryL args 0, [], m⟩ (fun _ => 0) := by
    refine ⟨rfl, by simp; omega, fun t sv ht => ?_, fun t sv ht => ?_, fun k T cs hk => (by cases hk), fun j k hj => (by obtain ⟨x, hx⟩ := hj; cases hx), fun k hk => (by obtain ⟨x, hx⟩ := hk; cases hx), fun k hk => (by obtain ⟨x, hx⟩ := hk; cases hx), hw, Frm.refl _ _⟩
    · obtain ⟨v, rfl, _, h3⟩ := look_entry ht
      have hlt : t < args.length := by have := (List.getElem?_eq_some_iff.1 h3).1; omega
      simp only [Nat.sub_zero] at h3
      rw [Array.getD_eq_getD_getElem?, Array.getElem?_append_left (by simpa using hlt)]
      simp [h3, SV.conc]
    · obtain ⟨v, rfl, _, _⟩ := look_entry ht; trivial
  refine Code.wp_mono ?_ (wpC_sound c _ _ h w m _ w _ hi)
  rintro e a' w' ⟨s', lam', hi', hk⟩
  cases e with
  | normal =>
    simp only [Fin] at hk
    split at hk
    · rename_i vs hvs
      exact ⟨hi'.defers, _, results_ok hi' hvs, s'.m, hi'.sat, hi'.frm, hk⟩
    · exact hk.elim
  | ret =>
    simp only [Fin] at hk
    split at hk
    · rename_i vs hvs
      exact ⟨hi'.defers, _, results_ok hi' hvs, s'.m, hi'.sat, hi'.frm, hk⟩
    · exact hk.elim
  | _ => exact hk.elim
end
end Go.FL
