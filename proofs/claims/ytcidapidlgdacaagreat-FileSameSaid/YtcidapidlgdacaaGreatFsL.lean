import Derived.Test.YtcidapidlgdacaaGreatFsK
set_option linter.unusedVariables false
set_option linter.unusedSimpArgs false
namespace Go.Proofs.YtcidapidlgdacaaGreat
open Go.FL
set_option maxRecDepth 10000
def pk24 (r : R) (tw th : Int) (l : List Comp) (p : Par) (prec : List Pt) (steps : List Int) (tile : Int) : Int :=
  if validT r tw th l p prec steps tile 0 then packetsN p prec l ((tilesL r tw th l)[tile.toNat]?.getD .zero) else 0
theorem check_zero {r : R} {tw th : Int} {l : List Comp} {p : Par} {prec : List Pt} {steps : List Int} (h : checkE r tw th l p prec steps = 0) : hdrE r tw th l = 0 ∧ kindsB p = true ∧ numB p prec steps = true := by
  unfold checkE at h
  split at h
  · rename_i h1; exact absurd h h1
  · rename_i h1
    split at h
    · cases h
    · rename_i h2
      split at h
      · cases h
      · rename_i h3; exact ⟨by simpa using h1, by simpa using h2, by simpa using h3⟩
theorem packets24_ok (m : Mem) (r : R) (tw th : Int) (v vp vs : Value) (l : List Comp) (p : Par) (prec : List Pt) (steps : List Int) (tile : Int) (hl : Sl encC 4 m v l) (hp : Sl encP 2 m vp prec) (hs : Sl encI 1 m vs steps)
    (Q : Ending → Mem → Prop) (hQ : ∀ m', m.le m' → Q (.returned (.int .i64 (pk24 r tw th l p prec steps tile))) m') : CC Tryz.prog 39 [hv r tw th v, pv p vp vs, .int .i64 tile] m Q := by
  have hlen := hl.len
  refine cc_enter Tryz.func39 Tryz.ntmps39 rfl (by kernel_rfl) (by simp) ?_
  simp -implicitDefEqProofs [go_sem, hv, pv, pc]
  refine validT_ok m r tw th v vp vs l p prec steps tile 0 hl hp hs _ (fun m1 hle1 => ⟨_, rfl, ?_⟩)
  simp -implicitDefEqProofs [go_sem]
  refine wpIf_mk (fun h1 => ?_) (fun h1 => ?_)
  · simp at h1
    simp -implicitDefEqProofs [go_sem]
    have := hQ m1 hle1
    simpa [pk24, h1] using this
  · simp at h1
    have hv1 := h1
    simp [validT] at h1
    obtain ⟨⟨⟨k1, k2⟩, k3⟩, k4⟩ := h1
    simp -implicitDefEqProofs [go_sem]
    refine draw_rule [(0, 0), (1, 0), (2, 0), (4, 0), (3, 5), (5, 0), (6, 0), (7, 1), (8, 0)] (by kernel_rfl) (by simp [go_sem]) ?_
    simp -implicitDefEqProofs [go_sem]
    obtain ⟨z1, z2, z3⟩ := check_zero k1
    obtain ⟨n1, n2, n3, n4, n5, n6, n7, n8, n9⟩ := precOk_of z3
    refine tiles24_ok m1 r tw th v l (hl.le hle1) _ (fun vq m2 hle2 hsl => ⟨vq, rfl, ?_⟩)
    have hql := hsl.len
    have hx : (tilesL r tw th l)[tile.toNat]? = some ((tilesL r tw th l)[tile.toNat]'(by omega)) := by simp
    obtain ⟨q, hq⟩ : ∃ q, (tilesL r tw th l)[tile.toNat]? = some q := ⟨_, hx⟩
    have hrd := hsl.rd_all hq rfl
    have had := hsl.adr hq 0
    simp -implicitDefEqProofs [go_sem, hle2, hql, k2, k3, hsl.plain, hrd, had, encR]
    refine wpCall_at (packets_ok m2 r tw th v vp vs l p prec q (hl.le (hle1.trans hle2)) (hp.le (hle1.trans hle2)) n1 n2 n3) ?_
    simp -implicitDefEqProofs [go_sem]
    have := hQ m2 (hle1.trans hle2)
    simpa [pk24, hv1, hq] using this
end Go.Proofs.YtcidapidlgdacaaGreat
