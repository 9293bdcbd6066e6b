import Derived.Test.YtcidapidlgdacaaGreatFsU
set_option linter.unusedVariables false
set_option linter.unusedSimpArgs false
namespace Go.Proofs.YtcidapidlgdacaaGreat
open Go.FL
set_option maxRecDepth 10000
theorem read28_pay (b : List UInt8) (at' : Int) : (read28 b at').pay.length ≤ b.length := by
  unfold read28
  split; · simp
  split; · simp
  split; · simp
  split; · simp
  split; · simp
  split; · simp
  split; · simp
  simp; omega
theorem all28_pay (b : List UInt8) : ∀ (k : Nat) (at' : Int) (acc : List (Int × List UInt8)), (∀ x ∈ acc, x.2.length ≤ b.length) → ∀ x ∈ (all28 k b at' acc).1, x.2.length ≤ b.length
  | 0, at', acc, h, x, hx => by simp [all28] at hx
  | k + 1, at', acc, h, x, hx => by
    rw [all28] at hx
    split at hx
    · exact h x hx
    · split at hx
      · simp at hx
      · refine all28_pay b k _ _ (fun y hy => ?_) x hx
        rcases List.mem_append.1 hy with h1 | h1
        · exact h y h1
        · simp at h1; subst h1; exact read28_pay b at'
theorem fewBytes_ok (m : Mem) (v : Value) (b : List UInt8) (hb : Sl enc8 1 m v b)
    (Q : Ending → Mem → Prop) (hQ : ∀ r m', m.le m' → (r = true → b.length ≤ 20000) → Q (.returned (.bool r)) m') : CC Tryz.prog 8 [v] m Q := by
  have hlen := hb.len
  refine cc_enter Tryz.func8 Tryz.ntmps8 rfl (by kernel_rfl) (by simp) ?_
  simp -implicitDefEqProofs [go_sem, hlen]
  refine wpIf_mk (fun h1 => ?_) (fun h1 => ?_)
  · simp -implicitDefEqProofs [go_sem]
    exact hQ _ m (Mem.le.refl _) (by simp)
  · simp at h1
    have hQ' : ∀ r m', m.le m' → Q (.returned (.bool r)) m' := fun r m' h => hQ r m' h (fun _ => by omega)
    simp -implicitDefEqProofs [go_sem, hlen]
    refine wpIf_mk (fun h2 => ?_) (fun h2 => ?_)
    · simp -implicitDefEqProofs [go_sem]
      exact hQ' _ m (Mem.le.refl _)
    · simp -implicitDefEqProofs [go_sem]
      refine all28_ok m v b 2 hb (by omega) _ (fun vl m1 l k1 hsl hseg hmap => ⟨_, rfl, ?_⟩)
      have hll := hsl.len
      simp -implicitDefEqProofs [go_sem, hll]
      refine wpIf_mk (fun h3 => ?_) (fun h3 => ?_)
      · simp -implicitDefEqProofs [go_sem]
        exact hQ' _ m1 k1
      · simp at h3
        obtain ⟨s0, s1, s2, lr, rfl⟩ : ∃ s0 s1 s2 lr, l = s0 :: s1 :: s2 :: lr := by
          match l, h3.2 with
          | s0 :: s1 :: s2 :: lr, _ => exact ⟨s0, s1, s2, lr, rfl⟩
          | [], h => exact absurd h (by simp)
          | [_], h => exact absurd h (by simp)
          | [_, _], h => exact absurd h (by simp)
        have hpay : ∀ s ∈ (s0 :: s1 :: s2 :: lr : List SegV), s.pay.length ≤ b.length := fun s hs => by
          have := all28_pay b (b.length + 1) 2 [] (by simp) s.p (by rw [show all28 (b.length + 1) b 2 [] = allS b 2 from rfl, ← hmap]; exact List.mem_map_of_mem hs)
          exact this
        have p0 := hpay s0 (by simp); have p1 := hpay s1 (by simp); have p2 := hpay s2 (by simp)
        have q0 := (hseg s0 (by simp)).sl (fun _ => rfl); have q1 := (hseg s1 (by simp)).sl (fun _ => rfl); have q2 := (hseg s2 (by simp)).sl (fun _ => rfl)
        have r0 := hsl.rd_all (j := 0) (x := s0) (by rfl) rfl
        have a0 := hsl.adr (j := 0) (x := s0) (by rfl) 0
        simp -implicitDefEqProofs [go_sem, hll, r0, a0, hsl.plain, encS, SegV.v]
        refine ⟨by omega, ?_⟩
        refine parseSize_ok m1 s0.code s0.a s0.n s0.c s0.pay q0 (by omega) _ (fun vc m2 k2 o2 => ⟨_, rfl, ?_⟩)
        obtain ⟨ca, cn, cc, rfl, hcn⟩ := o2.shape3
        simp -implicitDefEqProofs [go_sem, hv]
        refine wpIf_mk (fun h4 => ?_) (fun h4 => ?_)
        · simp -implicitDefEqProofs [go_sem]
          exact hQ' _ m2 (k1.trans k2)
        · have hsl2 := hsl.le k2
          have r1 := hsl2.rd_all (j := 1) (x := s1) (by rfl) rfl
          have a1 := hsl2.adr (j := 1) (x := s1) (by rfl) 0
          simp -implicitDefEqProofs [go_sem, hll, r1, a1, hsl.plain, encS, SegV.v]
          refine ⟨by omega, ?_⟩
          refine parseCoding_ok m2 s1.code s1.a s1.n s1.c s1.pay (q1.le k2) (by omega) _ (fun vp m3 k3 o3 => ⟨_, rfl, ?_⟩)
          obtain ⟨pa, pn, pk, rfl, hpn⟩ := o3.shape3
          simp -implicitDefEqProofs [go_sem, pv, pc]
          refine wpIf_mk (fun h5 => ?_) (fun h5 => ?_)
          · simp -implicitDefEqProofs [go_sem]
            exact hQ' _ m3 ((k1.trans k2).trans k3)
          · have hsl3 := hsl2.le k3
            have r2 := hsl3.rd_all (j := 2) (x := s2) (by rfl) rfl
            have a2 := hsl3.adr (j := 2) (x := s2) (by rfl) 0
            simp -implicitDefEqProofs [go_sem]
            refine draw_rule [(0, 0), (1, 0), (2, 0), (3, 0), (4, 1), (5, 0), (6, 0), (7, 0), (8, 3), (9, 0)] (by kernel_rfl) (by simp [go_sem]) ?_
            simp -implicitDefEqProofs [go_sem, hll, r2, a2, hsl.plain, encS, SegV.v]
            refine ⟨by omega, ?_⟩
            have hprec : (parseCoding s1.code s1.pay).prec.length ≤ 255 := by
              unfold parseCoding; split
              · simp
              · have := u8at_lt s1.pay 9
                simp [precsN_len]; omega
            refine parseQuant_ok m3 s2.code s2.a s2.n s2.c s2.pay ((q2.le k2).le k3) (by omega) (parseCoding s1.code s1.pay).p pa pn pk (parseCoding s1.code s1.pay).prec none 0 0 [] (o3.sl (fun _ => rfl)) Sl.nil (by omega) (by simp) _ (fun vp2 vs2 m4 k4 o4 o5 => ⟨_, rfl, ?_⟩)
            obtain ⟨ea, en, ek, rfl, hen⟩ := o4.shape3
            obtain ⟨fa, fn, fk, rfl, hfn⟩ := o5.shape3
            simp -implicitDefEqProofs [go_sem, k4, pv, pc]
            have hle := ((k1.trans k2).trans k3).trans k4
            refine wpGC_split (fun hc => ⟨by simpa using hc, ?_⟩) (fun hc => ?_)
            · refine few35_ok m4 (parseSize s0.code s0.pay).r (parseSize s0.code s0.pay).tw (parseSize s0.code s0.pay).th _ _ _ _ _ _ _ (((o2.sl (fun _ => rfl)).le k3).le k4) (o4.sl (fun _ => rfl)) (o5.sl (fun _ => rfl)) _ (fun r m5 k5 => ⟨_, rfl, ?_⟩)
              simp -implicitDefEqProofs [go_sem]
              exact hQ' _ m5 (hle.trans k5)
            · have hc' : (parseQuant s2.code s2.pay (parseCoding s1.code s1.pay).p (parseCoding s1.code s1.pay).prec).err != 0 := by simpa using hc
              simp -implicitDefEqProofs [go_sem, undef, hc']
              exact hQ' _ m4 hle
end Go.Proofs.YtcidapidlgdacaaGreat
