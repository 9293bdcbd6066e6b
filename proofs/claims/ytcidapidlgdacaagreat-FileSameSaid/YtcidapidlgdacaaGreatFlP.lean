/- The facts logic, part P: operations on memory: append; stores into rows of our own; private blocks that escape. -/
import Derived.Test.YtcidapidlgdacaaGreatFlO
set_option linter.unusedVariables false
set_option linter.unusedSimpArgs false
namespace Go.FL
section
variable {P : Program} {N : Nat} {s : St}

theorem Inv.turn {w0 : World} {m0 : Mem} {a : Act} {w w' : World} {lam : Nat → Nat} {m' : Mem} (hi : Inv w0 m0 N a w s lam) (hs' : Sat w' m') (hf' : Frm s.m m' w w') : Inv w0 m0 N a w' ⟨s.E, s.L, m'⟩ lam := by
  have hlt : ∀ k, s.al k → lam k < w.heap.size := fun k ⟨⟨T', cs'⟩, hx⟩ => (Array.getElem?_eq_some_iff.1 (hi.loc k T' cs' hx)).1
  refine ⟨hi.defers, hi.size, hi.env, hi.ok, fun k T cs hk => ?_, hi.inj, fun k hk => hf'.dom _ (hlt k hk) (hi.sep k hk), hi.old, hs', hi.frm.trans hf'⟩
  have hkl : s.al k := ⟨_, hk⟩
  have hfr := hi.sep k hkl
  rw [hf'.keep _ (hlt k hkl) hfr.2.1 hfr.2.2]
  exact hi.loc k T cs hk
theorem after_turn {w0 : World} {m0 : Mem} {K : St → Prop} {a : Act} {w w' : World} {lam : Nat → Nat} {m' : Mem} {d : Option Tmp} {v : Value} (hd : dstOk d N = true) (hi : Inv w0 m0 N a w s lam) (hs' : Sat w' m') (hf' : Frm s.m m' w w')
    (hk : K ((St.mk s.E s.L m').put d (.val v))) : After w0 m0 N K s lam d a w (a.put d v) w' := by
  refine ⟨_, lam, (hi.turn hs' hf').put (sv := .val v) hd trivial, hk, ⟨fun _ _ => rfl, hf'.size, fun b hb h1 _ => hf'.keep b hb h1.2.1 h1.2.2, fun b hb h1 h2 => ?_, fun t ht => Act.put_other ht⟩⟩
  rw [St.put_m]
  exact ⟨hf'.dom b hb h1, fun k hk => h2 k (St.al_of (s' := (St.mk s.E s.L m').put d (.val v)) (St.put_L _ _ _) hk)⟩
/-- an operation that yields a value (or none), the memory turning as said -/
theorem sem_step {o : Oper} {K : St → Prop} (hd : dstOk o.dst N = true)
    (h : ∀ a w lam, Rd a w s lam → ∃ n v w' m', (execOp a.eval o).run P w = .ok n w' ∧ (n = .value v ∨ n = .skip ∧ v = undef) ∧ Sat w' m' ∧ Frm s.m m' w w' ∧ K ((St.mk s.E s.L m').put o.dst (.val v))) : SemOp P N o s K := by
  intro w0 m0 a w lam Q hi
  obtain ⟨n, v, w', m', hrun, hn, hs', hf', hk⟩ := h a w lam hi.rd
  unfold Oper.wp
  rw [hrun]
  rcases hn with rfl | ⟨rfl, rfl⟩
  · exact after_turn hd hi hs' hf' hk
  · exact after_turn hd hi hs' hf' hk
theorem sem_run {o : Oper} {K : St → Prop} (hd : dstOk o.dst N = true) (h : wpX P N o s K) : SemOp P N o s K := wpX_sound hd h

/-! ### append -/
def Mem.drop (m : Mem) (b : Nat) : Mem := ⟨fun b' o => if b' = b then none else m.cell b' o, fun b' => if b' = b then none else m.own b', fun b' => if b' = b then none else m.obj b'⟩
theorem Mem.drop_le (m : Mem) (b : Nat) : (m.drop b).le m := by
  refine ⟨fun b' o v h => ?_, fun b' x h => ?_, fun b' x h => ?_⟩ <;> simp only [Mem.drop] at h <;> split at h <;> first | (cases h; done) | exact h
theorem Mem.drop_fresh (m : Mem) (b : Nat) : (m.drop b).fresh b := by simp [Mem.drop, Mem.fresh]
theorem Sat.grown {w w' : World} {m : Mem} {row : Option Nat} (h : Sat w m) (hg : w.grownBy w' row) (hr : ∀ b, row = some b → m.fresh b) : Sat w' m := by
  have hb : ∀ b, ¬ m.fresh b → w'.heap[b]? = w.heap[b]? := fun b hf => hg.block b (h.lt hf) (fun he => hf (hr b he.symm))
  refine ⟨fun b o v hv => ?_, fun b T n c hv => ?_, fun b x hv => ?_⟩
  · have := h.cell b o v hv
    unfold World.cell? at this ⊢
    rw [hb b (fresh_of_cell hv)]; exact this
  · rw [hb b (fresh_of_own hv)]; exact h.own b T n c hv
  · rw [hb b (fresh_of_obj hv)]; exact h.obj b x hv
/-- what is appended: a private row, or a slice that can be read -/
def Src {α : Type} (enc : α → List Value) (sz : Nat) (s : St) (y : Operand) (l : List α) : Prop :=
  (∃ k T, opr s.E y = some (.lsl k l.length) ∧ s.L[k]? = some (some (T, l.flatMap enc))) ∨ ∃ u, opr s.E y = some (.val u) ∧ Sl enc sz s.m u l
theorem Src.run {α : Type} {enc : α → List Value} {sz : Nat} {y : Operand} {l : List α} (he : ∀ x, (enc x).length = sz) (h : Src enc sz s y l) {a : Act} {w : World} {lam : Nat → Nat} (hr : Rd a w s lam) :
    ∃ A c, a.eval y = .slice A l.length c ∧ (A = none → l = []) ∧ ∀ ad, A = some ad → ∀ j u, (l.flatMap enc)[j]? = some u → w.cell? (ad.add j) = some u := by
  rcases h with ⟨k, T, h1, h2⟩ | ⟨u, h1, h2⟩
  · refine ⟨some ⟨lam k, 0, none⟩, l.length, opr_ok hr h1, fun h => (by cases h), fun ad had j u hu => ?_⟩
    cases had
    have hw := hr.loc k T _ h2
    have : (⟨lam k, 0, none⟩ : Addr).add j = ⟨lam k, j, none⟩ := by unfold Addr.add; split <;> simp_all
    rw [this]; simp only [World.cell?, hw]; simpa using hu
  · have e := opr_ok hr h1
    have hlen := h2.len
    cases u with
    | slice A n c =>
      simp only [lenV, Option.some.injEq] at hlen; subst hlen
      refine ⟨A, c, e, fun hA => ?_, fun ad hA j v hv => ?_⟩
      · subst hA
        cases l with
        | nil => rfl
        | cons x r => obtain ⟨b, off, n, c', hx, _⟩ := h2.at' 0 x rfl; cases hx
      · subst hA
        have hj := (List.getElem?_eq_some_iff.1 hv).1
        rw [flatMap_len he] at hj
        have hsz : 0 < sz := by
          rcases Nat.eq_zero_or_pos sz with h0 | h0
          · rw [h0] at hj; omega
          · exact h0
        have hdm := Nat.div_add_mod j sz
        have hml := Nat.mod_lt j hsz
        have hq : j / sz < l.length := Nat.div_lt_of_lt_mul (by rwa [Nat.mul_comm] at hj)
        obtain ⟨b, off, n, c', hx, h3⟩ := h2.at' (j / sz) l[j / sz] (by simp [hq])
        cases hx
        have h4 := flatMap_get he (l := l) (i := j / sz) (x := l[j / sz]) (by simp [hq]) (o := j % sz) hml
        have hjj : j / sz * sz + j % sz = j := by rw [Nat.mul_comm]; exact hdm
        rw [hjj, hv] at h4
        have h5 := hr.sat.cell _ _ _ (h3 _ v h4.symm)
        rw [hjj] at h5
        have : (⟨b, off, none⟩ : Addr).add j = ⟨b, off + j, none⟩ := by unfold Addr.add; split <;> simp_all
        rw [this]; exact h5
    | _ => cases hlen
theorem run_append_empty {w : World} {t ty e : TypeId} {i : TypeInfo} (ht : P.underlying t = some (.slice e)) (hi : P.info? e = some i) (A : Option Addr) (n c c' : Nat) (hnc : n ≤ c) :
    (Builtin.append_ #[t, t] ty #[.slice A n c, .slice none 0 c']).run P w = .ok (.slice A n c) w := by
  have hn : n + 0 ≤ c := by omega
  cases A <;> simp [Builtin.append_, run_underlying ht, run_sizeOf' hi, Builtin.lenOf, Builtin.firstCells, Result.andThen, hnc, storeCells]
end
section
variable {P : Program} {N : Nat} {s : St} {α : Type} {enc : α → List Value} {sz : Nat}
theorem sem_append {e T : TypeId} {by' : Nat} {z : List Value} {o : Oper} {x y : Operand} {m0 : Mem} {v : Value} {l l2 : List α} {K : St → Prop}
    (hop : o.op = .call { callee := .builtin .append, args := #[x, y], argTypes := #[T, T] }) (hd : dstOk o.dst N = true)
    (ht : telem P T = some (e, sz, by')) (hz : tzero P e = some z) (hzl : z.length = sz) (h0 : 0 < sz)
    (hx : opr s.E x = some (.val v)) (hm0 : m0.le s.m) (hown : Own enc sz e m0 s.m v l) (hy : Src enc sz s y l2)
    (hel : ∀ x, (enc x).length = sz) (hone : ∀ x u, u ∈ enc x → u.oneCell' = true)
    (hlen : l.length + l2.length ≤ maxLen) (hby : (l.length + l2.length) * by' ≤ 140737488355328)
    (h : ∀ v' m', m0.le m' → Own enc sz e m0 m' v' (l ++ l2) → Grew s.m m' v.ownBlock → (v'.ownBlock = v.ownBlock ∨ ∃ b, v'.ownBlock = some b ∧ s.m.fresh b) → K ((St.mk s.E s.L m').put o.dst (.val v'))) : SemOp P N o s K := by
  refine sem_step hd fun a w lam hr => ?_
  obtain ⟨i, hu, hi, hsz, hbyt⟩ := telem_ok ht
  obtain ⟨i', zv, hi', hzz, hc⟩ := tzero_ok hz
  rw [hi] at hi'; cases hi'
  have ex : a.eval x = v := opr_ok hr hx
  obtain ⟨A, c, ey, hA, hcell⟩ := hy.run hel hr
  have hnl := flatMap_len hel l
  have hnl2 := flatMap_len hel l2
  -- what is known of the row
  have hrow : w.ownsRow 0 e sz v l.length (l.flatMap enc) := by
    refine ⟨hnl, ?_⟩
    rcases hown with ⟨rfl, rfl⟩ | ⟨b, cap, rfl, h1, h2, h3, h4, h5⟩
    · exact .inl ⟨rfl, rfl⟩
    · obtain ⟨⟨cs, k1, k2⟩, k3, k4⟩ := hr.sat.own b e _ _ h4
      refine .inr ⟨b, cap, cs, rfl, Nat.zero_le _, k1, h2, h3, k2, ?_⟩
      apply List.ext_getElem?
      intro j
      rcases Nat.lt_or_ge j (l.length * sz) with hj | hj
      · rw [List.getElem?_take_of_lt hj]
        have hj' : j < (l.flatMap enc).length := by rw [hnl]; exact hj
        have := hr.sat.cell b j _ (h5 j _ (List.getElem?_eq_getElem hj'))
        simp only [World.cell?, k1] at this
        rw [List.getElem?_eq_getElem hj', ← this]; simp
      · rw [List.getElem?_eq_none (l := l.flatMap enc) (by rw [hnl]; exact hj), List.getElem?_eq_none (by rw [List.length_take]; omega)]
  have hexec : ∀ v' w', (Builtin.append_ #[T, T] o.type #[v, .slice A l2.length c]).run P w = .ok v' w' → (execOp a.eval o).run P w = .ok (.value v') w' := by
    intro v' w' hrun
    simp only [execOp, hop, resolve, invoke, builtin, Sem.run_bind, Sem.run_pure, Result.andThen_ok, List.map_toArray, List.map_cons, List.map_nil, ex, ey, hrun]
  cases A with
  | none =>
    have hl2 := hA rfl
    subst hl2
    obtain ⟨B, n, c2, rfl, hnc⟩ : ∃ B n c2, v = .slice B n c2 ∧ n ≤ c2 := by
      rcases hown with ⟨rfl, rfl⟩ | ⟨b, cap, rfl, h1, h2, h3, h4, h5⟩
      · exact ⟨_, _, _, rfl, Nat.le_refl _⟩
      · exact ⟨_, _, _, rfl, h2⟩
    refine ⟨_, _, w, s.m, hexec _ _ (run_append_empty hu hi B n c2 c hnc), .inl rfl, hr.sat, Frm.refl _ _, h _ s.m hm0 (by rw [List.append_nil]; exact hown) (Grew.refl _ _) (.inl rfl)⟩
  | some ad =>
    obtain ⟨v', w', hrun, hrow', hg, hnil, hat⟩ := run_append_own_at (P := P) w 0 T o.type e i zv sz by' hu hi hzz hsz hbyt (by rw [← hzl, ← hc]; simp) h0 v l.length _ hrow ad l2.length c _ hnl2 (hcell ad rfl)
      (fun u hu => by obtain ⟨x, _, hx⟩ := List.mem_flatMap.1 hu; exact hone x u hx) hlen hby (Nat.zero_le _)
    have hfm : l.flatMap enc ++ l2.flatMap enc = (l ++ l2).flatMap enc := by rw [List.flatMap_append]
    have hll : (l ++ l2).length = l.length + l2.length := List.length_append
    have hvo : ∀ b, v.ownBlock = some b → ¬ (s.m.own b = none) := by
      intro b hb
      rcases hown with ⟨rfl, rfl⟩ | ⟨b', cap, rfl, h1, h2, h3, h4, h5⟩
      · cases hb
      · cases hb; rw [h4]; simp
    rcases hrow'.2 with ⟨rfl, hn0⟩ | ⟨b', cap', cur, rfl, _, hcur, hn', hcm, hcs, htake⟩
    · obtain ⟨rfl, hm0'⟩ := hnil.1 rfl
      have hl2 : l2 = [] := List.eq_nil_of_length_eq_zero hm0'
      subst hl2
      have : w'.grownBy w' none := ⟨rfl, rfl, rfl, Nat.le_refl _, fun _ _ _ => rfl⟩
      refine ⟨_, _, w', s.m, hexec _ _ hrun, .inl rfl, hr.sat.grown hg (fun b hb => (by cases hb)), ⟨hg.os, hg.tape, hg.output, hg.size, fun b hb _ _ => hg.block b hb (by simp [Value.ownBlock]), fun _ _ h => h, fun _ _ h => h⟩, h _ s.m hm0 ?_ (Grew.refl _ _) (.inl rfl)⟩
      rw [List.append_nil]; exact hown
    · -- the new facts
      let md : Mem := match v.ownBlock with | some b => s.m.drop b | none => s.m
      have hmdle : md.le s.m := by
        simp only [md]; split
        · exact Mem.drop_le _ _
        · exact Mem.le.refl _
      have hmdfr : ∀ b, v.ownBlock = some b → md.fresh b := fun b hb => by simp only [md, hb]; exact Mem.drop_fresh _ _
      have hmdsame : ∀ b, v.ownBlock ≠ some b → (∀ o, md.cell b o = s.m.cell b o) ∧ md.own b = s.m.own b ∧ md.obj b = s.m.obj b := by
        intro b hb
        simp only [md]; split
        · rename_i b2 hb2
          have hne : b ≠ b2 := fun he => hb (by rw [hb2, he])
          simp [Mem.drop, hne]
        · exact ⟨fun _ => rfl, rfl, rfl⟩
      have hmdsat : Sat w' md := (hr.sat.le hmdle).grown hg hmdfr
      have hb' : v.ownBlock = some b' ∨ b' = w.heap.size := by
        rcases hat with h1 | h1
        · left; rw [← h1]; rfl
        · right; cases h1; rfl
      let m' := md.setRow b' e ((l ++ l2).flatMap enc) (cap' * sz)
      have hlen' : ((l ++ l2).flatMap enc).length = (l ++ l2).length * sz := flatMap_len hel _
      have hsat' : Sat w' m' := by
        refine hmdsat.setRow hcur hcs ?_ ?_
        · rw [hlen', hll]; exact Nat.mul_le_mul_right _ hn'
        · rw [hlen', hll, htake, hfm]
      have hnf : ∀ b, b < w.heap.size → b = b' → v.ownBlock = some b := fun b hb he => by
        rcases hb' with h1 | h1
        · rw [he]; exact h1
        · omega
      have hfrm : Frm s.m m' w w' := by
        refine ⟨hg.os, hg.tape, hg.output, hg.size, fun b hb h1 h2 => hg.block b hb (fun he => hvo b he.symm h1), fun b hb hx => ?_, fun b hb hf => ?_⟩
        · by_cases he : b = b'
          · left; exact hvo b (hnf b hb he)
          · simp only [m', Mem.setRow, if_neg he] at hx
            rcases hx with hx | hx
            · left; intro hn; cases hq : md.own b with
              | none => exact hx hq
              | some q => rw [hmdle.own b q hq] at hn; cases hn
            · right; intro hn; cases hq : md.obj b with
              | none => exact hx hq
              | some q => rw [hmdle.obj b q hq] at hn; cases hn
        · have he : b ≠ b' := fun he => hvo b (hnf b hb he) hf.2.1
          have := hmdle.fresh hf
          simpa [m', Mem.setRow, Mem.fresh, he] using this
      have hfb : m0.fresh b' := by
        rcases hb' with h1 | h1
        · exact (hown.blk b' h1).1
        · rw [h1]; exact hm0.fresh (hr.sat.fresh_of_ge (Nat.le_refl _))
      have hgrew : Grew s.m m' v.ownBlock := by
        refine ⟨fun b hb hne => ?_⟩
        have he : b ≠ b' := fun he => by
          rcases hb' with h1 | h1
          · rw [← he] at h1; exact hne h1
          · exact hb (by rw [he, h1]; exact hr.sat.fresh_of_ge (Nat.le_refl _))
        obtain ⟨k1, k2, k3⟩ := hmdsame b hne
        simp only [m', Mem.setRow, if_neg he]
        exact ⟨k1, k2, k3⟩
      refine ⟨_, _, w', m', hexec _ _ hrun, .inl rfl, hsat', hfrm, h _ m' (hgrew.le hm0 fun b hb => (hown.blk b hb).1) (.inr ⟨b', cap', by rw [hll], hfb, by rw [hll]; exact hn', hcm, ?_, ?_⟩) hgrew ?_⟩
      · simp only [m', Mem.setRow, if_true, hlen']
      · intro o u hu; simp only [m', Mem.setRow, if_true]; exact hu
      · rcases hb' with h1 | h1
        · left; rw [h1]; rfl
        · right; exact ⟨b', rfl, by rw [h1]; exact hr.sat.fresh_of_ge (Nat.le_refl _)⟩
end
end Go.FL
