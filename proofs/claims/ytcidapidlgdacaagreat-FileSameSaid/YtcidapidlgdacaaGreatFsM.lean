import Derived.Test.YtcidapidlgdacaaGreatFsL
set_option linter.unusedVariables false
set_option linter.unusedSimpArgs false
namespace Go.Proofs.YtcidapidlgdacaaGreat
open Go.FL
set_option maxRecDepth 10000
theorem few35_ok (m : Mem) (r : R) (tw th : Int) (v vp vs : Value) (l : List Comp) (p : Par) (prec : List Pt) (steps : List Int) (hl : Sl encC 4 m v l) (hp : Sl encP 2 m vp prec) (hs : Sl encI 1 m vs steps)
    (Q : Ending → Mem → Prop) (hQ : ∀ b m', m.le m' → Q (.returned (.bool b)) m') : CC Tryz.prog 19 [hv r tw th v, pv p vp vs] m Q := by
  have hlen := hl.len
  have hlp := hp.len
  have hls := hs.len
  refine cc_enter Tryz.func19 Tryz.ntmps19 rfl (by kernel_rfl) (by simp) ?_
  simp -implicitDefEqProofs [go_sem, hv, pv, pc, hlen, hlp, hls]
  refine wpIf_mk (fun h1 => ?_) (fun h1 => ?_)
  · simp -implicitDefEqProofs [go_sem]
    exact hQ _ m (Mem.le.refl _)
  · simp -implicitDefEqProofs [go_sem]
    refine wpCall_at (header_ok m r tw th v l hl) ?_
    simp -implicitDefEqProofs [go_sem]
    refine wpIf_mk (fun h2 => ?_) (fun h2 => ?_)
    · simp -implicitDefEqProofs [go_sem]
      exact hQ _ m (Mem.le.refl _)
    · simp -implicitDefEqProofs [go_sem]
      by_cases h3 : IntKind.i64.wrap (r.x1 - r.x0) ≤ 40 ∧ IntKind.i64.wrap (r.y1 - r.y0) ≤ 40
      · have a1 : ¬ 40 < IntKind.i64.wrap (r.x1 - r.x0) := by omega
        have a2 : ¬ 40 < IntKind.i64.wrap (r.y1 - r.y0) := by omega
        refine wpGC_split (fun _ => ⟨h3, tiles24_ok m r tw th v l hl _ (fun vq m1 hle1 hsl => ⟨vq, rfl, ?_⟩)⟩) (by simp [a1, a2])
        have hql := hsl.len
        simp -implicitDefEqProofs [go_sem, a1, a2, hql]
        refine wpIf_mk (fun h4 => ?_) (fun h4 => ?_)
        · simp -implicitDefEqProofs [go_sem]
          exact hQ _ m1 hle1
        · simp at h4
          simp -implicitDefEqProofs [go_sem]
          refine check_ok m1 r tw th v vp vs l p prec steps (hl.le hle1) (hp.le hle1) (hs.le hle1) _ (fun m2 hle2 => ⟨_, rfl, ?_⟩)
          simp -implicitDefEqProofs [go_sem]
          refine wpIf_mk (fun h5 => ?_) (fun h5 => ?_)
          · simp -implicitDefEqProofs [go_sem]
            exact hQ _ m2 (hle1.trans hle2)
          · simp -implicitDefEqProofs [go_sem]
            refine tiles24_ok m2 r tw th v l ((hl.le hle1).le hle2) _ (fun vt m3 hle3 hsl3 => ⟨vt, rfl, ?_⟩)
            have hql3 := hsl3.len
            simp -implicitDefEqProofs [go_sem, hql3]
            have hle := (hle1.trans hle2).trans hle3
            refine loop_rule (fun x : Nat × Mem => ⟨[(56, .val (.int .i64 x.1)), (55, .val (.int .i64 (tilesL r tw th l).length)), (2, .loc 0 0), (3, .loc 1 0)], [some (51, hc r tw th v), some (63, pc p vp vs)], x.2⟩)
              (fun x => m.le x.2) (fun x => (tilesL r tw th l).length - x.1) (0, m3) hle (St.le_mk (by simp [go_sem]) (by simp [go_sem]) (by simp [go_sem, pc, hc]) (Mem.le.refl _)) (fun ⟨i, mi⟩ hmi => ?_)
            simp only at hmi
            simp -implicitDefEqProofs [go_sem, pc, hc]
            refine wpIf_mk (fun h6 => ?_) (fun h6 => ?_)
            · simp at h6
              simp -implicitDefEqProofs [go_sem]
              refine packets24_ok mi r tw th v vp vs l p prec steps i (hl.le hmi) (hp.le hmi) (hs.le hmi) _ (fun m4 hle4 => ⟨_, rfl, ?_⟩)
              simp -implicitDefEqProofs [go_sem]
              refine wpIf_mk (fun h7 => ?_) (fun h7 => ?_)
              · simp -implicitDefEqProofs [go_sem]
                exact hQ _ m4 (hmi.trans hle4)
              · simp -implicitDefEqProofs [go_sem, wrapS h6 hsl3.max]
                exact roundK_normal (i + 1, m4) (hmi.trans hle4) (St.le_mk (by simp [go_sem]) (by simp [go_sem]) (by simp [go_sem, pc, hc]) (Mem.le.refl _)) (by simp only; omega)
            · simp -implicitDefEqProofs [go_sem]
              exact hQ _ mi hmi
      · have hf : (!decide (40 < IntKind.i64.wrap (r.x1 - r.x0)) && !decide (40 < IntKind.i64.wrap (r.y1 - r.y0))) = false := by simp; omega
        have ht : (decide (40 < IntKind.i64.wrap (r.x1 - r.x0)) || decide (40 < IntKind.i64.wrap (r.y1 - r.y0))) = true := by simp; omega
        refine wpGC_split (by simp [hf]) (fun _ => ?_)
        simp -implicitDefEqProofs [go_sem, hf, ht, undef]
        exact hQ _ m (Mem.le.refl _)
end Go.Proofs.YtcidapidlgdacaaGreat
