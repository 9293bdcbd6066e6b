import Derived.Test.YtcidapidlgdacaaGreatFsF
set_option linter.unusedVariables false
set_option linter.unusedSimpArgs false
namespace Go.Proofs.YtcidapidlgdacaaGreat
open Go.FL
set_option maxRecDepth 10000
def hc (r : R) (tw th : Int) (v : Value) : List Value := [.int .i64 r.x0, .int .i64 r.y0, .int .i64 r.x1, .int .i64 r.y1, .int .i64 tw, .int .i64 th, v]
/-- the exponents of precincts are in range -/
def PrecOk (p : Par) (prec : List Pt) : Prop := ∀ res : Int, 0 ≤ res → res ≤ p.levels → min res 1 ≤ (precPt p prec res).x ∧ (precPt p prec res).x ≤ 12 ∧ min res 1 ≤ (precPt p prec res).y ∧ (precPt p prec res).y ≤ 12
theorem precOk_of {p : Par} {prec : List Pt} {steps : List Int} (h : numB p prec steps = true) : PrecOk p prec ∧ 0 ≤ p.levels ∧ p.levels ≤ 5 ∧ 2 ≤ p.bx ∧ p.bx ≤ 6 ∧ 2 ≤ p.bY ∧ p.bY ≤ 6 ∧ 1 ≤ p.layers ∧ p.layers ≤ 16 := by
  simp [numB] at h
  obtain ⟨⟨⟨⟨⟨⟨⟨⟨k1, k2⟩, k3⟩, k4⟩, k5⟩, k6⟩, k7⟩, k8⟩, k9⟩ := h
  simp [inR] at k1 k2 k3 k4
  refine ⟨fun res h0 h1 => ?_, k1.1, k1.2, k2.1, k2.2, k3.1, k3.2, k4.1, k4.2⟩
  unfold precPt
  rw [if_neg (by omega)]
  by_cases hn : prec.length = 0
  · rw [if_pos hn]; simp only; omega
  · rw [if_neg hn]
    rcases k9 with k9 | ⟨k9, k10⟩
    · exact absurd (by simp [k9]) hn
    · have hlt : res.toNat < prec.length := by omega
      have hx : prec[res.toNat]? = some prec[res.toNat] := by simp [hlt]
      have hz : prec.zipIdx[res.toNat]? = some (prec[res.toNat], res.toNat) := by simp [List.getElem?_zipIdx, hx]
      have := k10 prec[res.toNat] res.toNat (List.mem_of_getElem? hz)
      simp [precBad, inR] at this
      rw [hx]; simp only [Option.getD_some]
      omega
def pkRes (p : Par) (prec : List Pt) (q : R) (n : Int) (res : Nat) : Int := IntKind.i64.wrap (n + gridN (resR q p.levels (res : Int)) (precPt p prec (res : Int)).x (precPt p prec (res : Int)).y)
def pkComp (p : Par) (prec : List Pt) (tile : R) (n : Int) (c : Comp) : Int := (List.range (p.levels.toNat + 1)).foldl (pkRes p prec (tile.reduce c.dx c.dy)) n
def packetsN (p : Par) (prec : List Pt) (l : List Comp) (tile : R) : Int := IntKind.i64.wrap (l.foldl (pkComp p prec tile) 0 * p.layers)
theorem packets_ok (m : Mem) (r : R) (tw th : Int) (v vp vs : Value) (l : List Comp) (p : Par) (prec : List Pt) (tile : R) (hl : Sl encC 4 m v l) (hp : Sl encP 2 m vp prec) (hpo : PrecOk p prec) (hl0 : 0 ≤ p.levels) (hl5 : p.levels ≤ 5) :
    PureAt Tryz.prog 72 [hv r tw th v, pv p vp vs, tile.v] m (.int .i64 (packetsN p prec l tile)) := by
  have hlen := hl.len
  refine cc_enter Tryz.func72 Tryz.ntmps72 rfl (by kernel_rfl) (by simp) ?_
  simp -implicitDefEqProofs [go_sem, hv, pv, pc, R.v]
  refine loop_rule (fun x : Nat × Int => ⟨[(8, .val (.int .i64 x.1)), (7, .val (.int .i64 x.2)), (3, .loc 0 0), (4, .loc 1 0), (5, .loc 2 0)], [some (51, hc r tw th v), some (63, pc p vp vs), some (48, encR tile)], m⟩)
    (fun x => x.1 ≤ l.length ∧ x.2 = (l.take x.1).foldl (pkComp p prec tile) 0) (fun x => l.length - x.1) (0, 0) ⟨by omega, by simp⟩ (St.le_mk (by simp [go_sem]) (by simp [go_sem]) (by simp [go_sem, pc, hc, encR]) (Mem.le.refl _)) (fun ⟨k, n⟩ ⟨hk, hn⟩ => ?_)
  simp only at hk hn
  simp -implicitDefEqProofs [go_sem, hc, pc, encR, hlen]
  refine wpIf_mk (fun ha => ?_) (fun ha => ?_)
  · simp at ha
    obtain ⟨c, hx⟩ : ∃ c, l[k]? = some c := ⟨l[k], by simp [ha]⟩
    have hx' : l[((k : Nat) : Int).toNat]? = some c := by simpa using hx
    have hr2 := hl.rd (j := (k : Int)) (x := c) hx' (off := 2) (k := 1) (by simp [encC])
    have hr3 := hl.rd (j := (k : Int)) (x := c) hx' (off := 3) (k := 1) (by simp [encC])
    have ha2 := hl.adr (j := (k : Int)) (x := c) hx' 2
    have ha3 := hl.adr (j := (k : Int)) (x := c) hx' 3
    have ha0 := hl.adr (j := (k : Int)) (x := c) hx' 0
    simp [encC] at hr2 hr3
    simp -implicitDefEqProofs [go_sem]
    refine draw_rule [(0, 0), (1, 0), (2, 0), (3, 0), (4, 0), (5, 0), (6, 0), (7, 0), (8, 0), (9, 0), (10, 0), (11, 0), (12, 0), (13, 1), (14, 2), (15, 1)] (by kernel_rfl) (by simp [go_sem]) ?_
    simp -implicitDefEqProofs [go_sem, hlen, ha, hl.plain, ha0, ha2, ha3, hr2, hr3]
    refine wpCall_pure (reduce_ok tile c.dx c.dy) ?_
    simp -implicitDefEqProofs [go_sem, R.v]
    refine loop_rule (fun x : Nat × Int => ⟨[(10, .val (.int .i64 x.1)), (7, .val (.int .i64 x.2)), (8, .val (.int .i64 k)), (3, .loc 0 0), (4, .loc 1 0), (5, .loc 2 0), (9, .loc 3 0)], [some (51, hc r tw th v), some (63, pc p vp vs), some (48, encR tile), some (48, encR (tile.reduce c.dx c.dy))], m⟩)
      (fun x => (x.1 : Int) ≤ p.levels + 1 ∧ x.2 = (List.range x.1).foldl (pkRes p prec (tile.reduce c.dx c.dy)) n) (fun x => p.levels.toNat + 1 - x.1) (0, n) ⟨by simp only; omega, by simp⟩ (St.le_mk (by simp [go_sem]) (by simp [go_sem]) (by simp [go_sem, pc, hc, encR]) (Mem.le.refl _)) (fun ⟨j, q⟩ ⟨hj, hq⟩ => ?_)
    simp only at hj hq
    simp -implicitDefEqProofs [go_sem, hc, pc, encR]
    refine wpIf_mk (fun hb => ?_) (fun hb => ?_)
    · simp at hb
      obtain ⟨o1, o2, o3, o4⟩ := hpo j (by omega) hb
      simp -implicitDefEqProofs [go_sem]
      refine wpCall_at (precinct_ok m p vp vs prec hp j) ?_
      simp -implicitDefEqProofs [go_sem, Pt.v]
      refine draw_rule [(0, 0), (1, 0), (2, 0), (3, 0), (4, 0), (6, 0), (7, 0), (8, 0), (9, 0), (5, 1), (10, 1), (11, 0), (12, 0)] (by kernel_rfl) (by simp [go_sem]) ?_
      simp -implicitDefEqProofs [go_sem]
      refine wpCall_pure (resolution_ok (tile.reduce c.dx c.dy) p.levels j) ?_
      simp -implicitDefEqProofs [go_sem, R.v]
      refine wpCall_pure (grid_ok (resR (tile.reduce c.dx c.dy) p.levels j) (resR_valid _ _ _) (precPt p prec j).x (precPt p prec j).y (by omega) (by omega) (by omega) (by omega)) ?_
      simp -implicitDefEqProofs [go_sem, wrapI (x := (j : Int) + 1) (by omega) (by omega)]
      exact roundK_normal (j + 1, pkRes p prec (tile.reduce c.dx c.dy) q j) ⟨by simp only; omega, by simp only; rw [List.range_succ, List.foldl_append, ← hq]; rfl⟩ (St.le_mk (by simp [go_sem, pkRes]) (by simp [go_sem]) (by simp [go_sem, pc, hc, encR]) (Mem.le.refl _)) (by simp only; omega)
    · simp at hb
      have hjj : j = p.levels.toNat + 1 := by omega
      simp -implicitDefEqProofs [go_sem, wrapS ha hl.max]
      refine roundK_normal (k + 1, pkComp p prec tile n c) ⟨by simp only; omega, ?_⟩ (St.le_mk (by simp [go_sem, pkComp, hq, hjj]) (by simp [go_sem]) (by simp [go_sem, pc, hc, encR]) (Mem.le.refl _)) (by simp only; omega)
      simp only
      rw [List.take_add_one, hx, List.foldl_append, ← hn]; rfl
  · simp at ha
    simp -implicitDefEqProofs [go_sem]
    rw [packetsN, hn, List.take_of_length_le ha]
end Go.Proofs.YtcidapidlgdacaaGreat
