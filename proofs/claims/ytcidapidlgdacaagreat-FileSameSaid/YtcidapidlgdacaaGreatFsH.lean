import Derived.Test.YtcidapidlgdacaaGreatFsG
set_option linter.unusedVariables false
set_option linter.unusedSimpArgs false
namespace Go.Proofs.YtcidapidlgdacaaGreat
open Go.FL
set_option maxRecDepth 10000
def bkBand (p : Par) (prec : List Pt) (q : R) (n : Int) (i : Nat) : Int :=
  max n (gridN (bandRect q p.levels (i : Int)) (min p.bx ((precPt p prec (((i : Int) + 2) / 3)).x - min (((i : Int) + 2) / 3) 1)) (min p.bY ((precPt p prec (((i : Int) + 2) / 3)).y - min (((i : Int) + 2) / 3) 1)))
def bkComp (p : Par) (prec : List Pt) (tile : R) (n : Int) (c : Comp) : Int := (List.range (3 * p.levels.toNat + 1)).foldl (bkBand p prec (tile.reduce c.dx c.dy)) n
def blocksN (p : Par) (prec : List Pt) (l : List Comp) (tile : R) : Int := l.foldl (bkComp p prec tile) 0
theorem blocks_ok (m : Mem) (r : R) (tw th : Int) (v vp vs : Value) (l : List Comp) (p : Par) (prec : List Pt) (tile : R) (hl : Sl encC 4 m v l) (hp : Sl encP 2 m vp prec) (hpo : PrecOk p prec) (hl0 : 0 ≤ p.levels) (hl5 : p.levels ≤ 5) (hbx : 0 ≤ p.bx ∧ p.bx ≤ 6) (hby : 0 ≤ p.bY ∧ p.bY ≤ 6) :
    PureAt Tryz.prog 73 [hv r tw th v, pv p vp vs, tile.v] m (.int .i64 (blocksN p prec l tile)) := by
  have hlen := hl.len
  refine cc_enter Tryz.func73 Tryz.ntmps73 rfl (by kernel_rfl) (by simp) ?_
  simp -implicitDefEqProofs [go_sem, hv, pv, pc, R.v]
  refine loop_rule (fun x : Nat × Int => ⟨[(8, .val (.int .i64 x.1)), (7, .val (.int .i64 x.2)), (3, .loc 0 0), (4, .loc 1 0), (5, .loc 2 0)], [some (51, hc r tw th v), some (63, pc p vp vs), some (48, encR tile)], m⟩)
    (fun x => x.1 ≤ l.length ∧ x.2 = (l.take x.1).foldl (bkComp p prec tile) 0) (fun x => l.length - x.1) (0, 0) ⟨by omega, by simp⟩ (St.le_mk (by simp [go_sem]) (by simp [go_sem]) (by simp [go_sem, pc, hc, encR]) (Mem.le.refl _)) (fun ⟨k, n⟩ ⟨hk, hn⟩ => ?_)
  simp only at hk hn
  simp -implicitDefEqProofs [go_sem, hc, pc, encR, hlen]
  refine wpIf_mk (fun ha => ?_) (fun ha => ?_)
  · simp at ha
    obtain ⟨c, hx⟩ : ∃ c, l[k]? = some c := ⟨l[k], by simp [ha]⟩
    have hx' : l[((k : Nat) : Int).toNat]? = some c := by simpa using hx
    have hr2 := hl.rd (j := (k : Int)) (x := c) hx' (off := 2) (k := 1) (by simp [encC])
    have hr3 := hl.rd (j := (k : Int)) (x := c) hx' (off := 3) (k := 1) (by simp [encC])
    have ha2 := hl.adr (j := (k : Int)) (x := c) hx' 2
    have ha3 := hl.adr (j := (k : Int)) (x := c) hx' 3
    have ha0 := hl.adr (j := (k : Int)) (x := c) hx' 0
    simp [encC] at hr2 hr3
    simp -implicitDefEqProofs [go_sem]
    refine draw_rule [(0, 0), (1, 0), (2, 0), (3, 0), (4, 0), (5, 0), (6, 0), (7, 0), (8, 0), (9, 0), (10, 0), (11, 0), (12, 0), (13, 1), (14, 2), (15, 1)] (by kernel_rfl) (by simp [go_sem]) ?_
    simp -implicitDefEqProofs [go_sem, hlen, ha, hl.plain, ha0, ha2, ha3, hr2, hr3]
    refine wpCall_pure (reduce_ok tile c.dx c.dy) ?_
    simp -implicitDefEqProofs [go_sem, R.v]
    refine loop_rule (fun x : Nat × Int => ⟨[(10, .val (.int .i64 x.1)), (7, .val (.int .i64 x.2)), (8, .val (.int .i64 k)), (3, .loc 0 0), (4, .loc 1 0), (5, .loc 2 0), (9, .loc 3 0)], [some (51, hc r tw th v), some (63, pc p vp vs), some (48, encR tile), some (48, encR (tile.reduce c.dx c.dy))], m⟩)
      (fun x => (x.1 : Int) ≤ 3 * p.levels + 1 ∧ x.2 = (List.range x.1).foldl (bkBand p prec (tile.reduce c.dx c.dy)) n) (fun x => 3 * p.levels.toNat + 1 - x.1) (0, n) ⟨by simp only; omega, by simp⟩ (St.le_mk (by simp [go_sem]) (by simp [go_sem]) (by simp [go_sem, pc, hc, encR]) (Mem.le.refl _)) (fun ⟨j, q⟩ ⟨hj, hq⟩ => ?_)
    simp only at hj hq
    have e0 : IntKind.i64.wrap (3 * p.levels) = 3 * p.levels := wrapI (by omega) (by omega)
    simp -implicitDefEqProofs [go_sem, hc, pc, encR, e0]
    refine wpIf_mk (fun hb => ?_) (fun hb => ?_)
    · simp at hb
      have e1 : IntKind.i64.wrap ((j : Int) + 2) = (j : Int) + 2 := wrapI (by omega) (by omega)
      have e2 : ((j : Int) + 2).tdiv 3 = ((j : Int) + 2) / 3 := Int.tdiv_eq_ediv_of_nonneg (by omega)
      have e3 : IntKind.i64.wrap (((j : Int) + 2) / 3) = ((j : Int) + 2) / 3 := wrapI (by omega) (by omega)
      obtain ⟨o1, o2, o3, o4⟩ := hpo (((j : Int) + 2) / 3) (by omega) (by omega)
      simp -implicitDefEqProofs [go_sem, e1, e2, e3]
      obtain ⟨res, hres⟩ : ∃ x, x = ((j : Int) + 2) / 3 := ⟨_, rfl⟩
      rw [← hres] at o1 o2 o3 o4 ⊢
      refine wpCall_at (precinct_ok m p vp vs prec hp res) ?_
      simp -implicitDefEqProofs [go_sem, Pt.v]
      refine draw_rule [(0, 0), (1, 0), (2, 0), (3, 0), (4, 0), (6, 0), (7, 0), (8, 0), (9, 0), (10, 0), (11, 0), (12, 0), (13, 0), (14, 0), (15, 0), (16, 0), (17, 0), (18, 0), (19, 0), (20, 0), (21, 0), (5, 1), (22, 1), (23, 0), (24, 0)] (by kernel_rfl) (by simp [go_sem]) ?_
      have e4 : IntKind.i64.wrap ((precPt p prec res).x - min res 1) = (precPt p prec res).x - min res 1 := wrapI (by omega) (by omega)
      have e5 : IntKind.i64.wrap ((precPt p prec res).y - min res 1) = (precPt p prec res).y - min res 1 := wrapI (by omega) (by omega)
      simp -implicitDefEqProofs [go_sem, e4, e5]
      refine wpCall_pure (band_ok (tile.reduce c.dx c.dy) p.levels j) ?_
      simp -implicitDefEqProofs [go_sem, R.v]
      refine wpCall_pure (grid_ok (bandRect (tile.reduce c.dx c.dy) p.levels j) (bandRect_valid _ _ _) (min p.bx ((precPt p prec res).x - min res 1)) (min p.bY ((precPt p prec res).y - min res 1)) (by omega) (by omega) (by omega) (by omega)) ?_
      simp -implicitDefEqProofs [go_sem, wrapI (x := (j : Int) + 1) (by omega) (by omega)]
      exact roundK_normal (j + 1, bkBand p prec (tile.reduce c.dx c.dy) q j) ⟨by simp only; omega, by simp only; rw [List.range_succ, List.foldl_append, ← hq]; rfl⟩ (St.le_mk (by simp [go_sem, bkBand, ← hres]) (by simp [go_sem]) (by simp [go_sem, pc, hc, encR]) (Mem.le.refl _)) (by simp only; omega)
    · simp at hb
      have hjj : j = 3 * p.levels.toNat + 1 := by omega
      simp -implicitDefEqProofs [go_sem, wrapS ha hl.max]
      refine roundK_normal (k + 1, bkComp p prec tile n c) ⟨by simp only; omega, ?_⟩ (St.le_mk (by simp [go_sem, bkComp, hq, hjj]) (by simp [go_sem]) (by simp [go_sem, pc, hc, encR]) (Mem.le.refl _)) (by simp only; omega)
      simp only
      rw [List.take_add_one, hx, List.foldl_append, ← hn]; rfl
  · simp at ha
    simp -implicitDefEqProofs [go_sem]
    rw [blocksN, hn, List.take_of_length_le ha]
end Go.Proofs.YtcidapidlgdacaaGreat
