import Derived.Test.YtcidapidlgdacaaGreatFsS
set_option linter.unusedVariables false
set_option linter.unusedSimpArgs false
namespace Go.Proofs.YtcidapidlgdacaaGreat
open Go.FL
set_option maxRecDepth 10000
theorem clone23_ok (m : Mem) (r : R) (tw th : Int) (ha : Option Addr) (hn hk : Nat) (l : List Comp) (p : Par) (pa : Option Addr) (pn pk : Nat) (prec : List Pt) (sa : Option Addr) (sn sk : Nat) (steps : List Int)
    (hl : Sl encC 4 m (.slice ha hn hk) l) (hp : Sl encP 2 m (.slice pa pn pk) prec) (hs : Sl encI 1 m (.slice sa sn sk) steps) (bl : l.length ≤ 1099511627776) (bp : prec.length ≤ 1099511627776) (bs : steps.length ≤ 1099511627776)
    (Q : Ending → Mem → Prop) (hQ : ∀ vl vp vs m', m.le m' → Own encC 4 96 m m' vl l → Own encP 2 99 m m' vp prec → Own encI 1 3 m m' vs steps → Q (.returned (.tuple #[hv r tw th vl, pv p vp vs])) m') :
    CC Tryz.prog 36 [hv r tw th (.slice ha hn hk), pv p (.slice pa pn pk) (.slice sa sn sk)] m Q := by
  refine cc_enter Tryz.func36 Tryz.ntmps36 rfl (by kernel_rfl) (by simp) ?_
  simp -implicitDefEqProofs [go_sem, hv, pv, pc]
  refine draw_rule [(0, 0), (1, 0), (2, 2), (3, 2), (4, 1), (5, 1)] (by kernel_rfl) (by simp [go_sem]) ?_
  simp -implicitDefEqProofs [go_sem]
  refine sem_append_new (enc := encC) (sz := 4) (e := 96) 6 rfl rfl tb_elem49 tb_zero96 rfl (by omega) rfl rfl rfl hl (fun _ => rfl) (by simp [encC, Value.oneCell']) (by simp [maxLen]; omega) (by omega) (fun b1 v1 m1 k1 o1 => ?_)
  obtain ⟨a1, n1, c1, rfl, hn1⟩ := o1.shape3
  simp -implicitDefEqProofs [go_sem]
  refine sem_append_new (enc := encP) (sz := 2) (e := 99) 7 rfl rfl tb_elem58 tb_zero99 rfl (by omega) rfl rfl rfl (hp.le k1) (fun _ => rfl) (by simp [encP, Value.oneCell']) (by simp [maxLen]; omega) (by omega) (fun b2 v2 m2 k2 o2 => ?_)
  obtain ⟨a2, n2, c2, rfl, hn2⟩ := o2.shape3
  simp -implicitDefEqProofs [go_sem]
  refine sem_append_new (enc := encI) (sz := 1) (e := 3) 8 rfl rfl tb_elem23 tb_zero3 rfl (by omega) rfl rfl rfl ((hs.le k1).le k2) (fun _ => rfl) (by simp [encI, Value.oneCell']) (by simp [maxLen]; omega) (by omega) (fun b3 v3 m3 k3 o3 => ?_)
  obtain ⟨a3, n3, c3, rfl, hn3⟩ := o3.shape3
  simp -implicitDefEqProofs [go_sem]
  refine draw_rule_at [none, none, none, none, some (51, hcells r tw th (.slice a1 n1 c1)), some (63, pc p (.slice a2 n2 c2) (.slice a3 n3 c3))] m3 [(0, 0), (1, 0), (2, 1), (3, 3)] (by kernel_rfl) (by simp [go_sem, hcells, pc]) (Mem.le.refl _) (by simp [go_sem]) ?_
  simp -implicitDefEqProofs [go_sem, hcells, pc]
  have := hQ (.slice a1 n1 c1) (.slice a2 n2 c2) (.slice a3 n3 c3) m3 ((k1.trans k2).trans k3) ((o1.le k2).le k3) ((o2.base k1).le k3) (o3.base (k1.trans k2))
  exact this
end Go.Proofs.YtcidapidlgdacaaGreat
