import Derived.Test.YtcidapidlgdacaaGreatFsB
set_option linter.unusedVariables false
set_option linter.unusedSimpArgs false
namespace Go.Proofs.YtcidapidlgdacaaGreat
open Go.FL
set_option maxRecDepth 10000
structure Pt where
  x : Int
  y : Int
def encP (p : Pt) : List Value := [.int .i64 p.x, .int .i64 p.y]
def Pt.v (p : Pt) : Value := .agg #[.int .i64 p.x, .int .i64 p.y]
structure Par where
  kernel : Int
  levels : Int
  color : Int
  bx : Int
  bY : Int
  order : Int
  layers : Int
  m0 : Bool
  m1 : Bool
  m2 : Bool
  m3 : Bool
  m4 : Bool
  divide : Bool
  sync : Bool
  fence : Bool
  dead : Int
  shift : Int
/-- the cells of parameters -/
def pc (p : Par) (vp vs : Value) : List Value := [.int .i64 p.kernel, .int .i64 p.levels, .int .i64 p.color, .int .i64 p.bx, .int .i64 p.bY, vp, .int .i64 p.order, .int .i64 p.layers,
  .bool p.m0, .bool p.m1, .bool p.m2, .bool p.m3, .bool p.m4, .bool p.divide, .bool p.sync, .bool p.fence, vs, .int .i64 p.dead, .int .i64 p.shift]
def pv (p : Par) (vp vs : Value) : Value := .agg (pc p vp vs).toArray
def kindsB (p : Par) : Bool := inR p.kernel 1 3 && inR p.color 0 2 && inR p.order 1 5
theorem kinds_ok (p : Par) (vp vs : Value) : Pure Tryz.prog 70 [pv p vp vs] (.bool (kindsB p)) := by
  intro m
  refine cc_enter Tryz.func70 Tryz.ntmps70 rfl (by kernel_rfl) (by simp) ?_
  simp [go_sem, pv, pc, kindsB, inR, Bool.and_assoc]
def precPt (p : Par) (prec : List Pt) (res : Int) : Pt := if res < 0 ∨ p.levels < res then ⟨0, 0⟩ else if prec.length = 0 then ⟨12, 12⟩ else (prec[res.toNat]?).getD ⟨0, 0⟩
theorem precinct_ok (m : Mem) (p : Par) (vp vs : Value) (prec : List Pt) (hs : Sl encP 2 m vp prec) (res : Int) : PureAt Tryz.prog 113 [pv p vp vs, .int .i64 res] m (precPt p prec res).v := by
  have hlen := hs.len
  refine cc_enter Tryz.func113 Tryz.ntmps113 rfl (by kernel_rfl) (by simp) ?_
  simp [go_sem, pv, pc]
  refine wpIf_mk (fun hb => ?_) (fun hb => ?_)
  · simp at hb
    simp [go_sem]
    rw [precPt, if_pos hb]; simp [Pt.v]
  · simp at hb
    simp [go_sem, hlen]
    refine wpIf_mk (fun hc => ?_) (fun hc => ?_)
    · simp at hc
      simp [go_sem]
      rw [precPt, if_neg (by omega), if_pos (by simp [hc])]; simp [Pt.v]
    · simp at hc
      simp [go_sem, hlen]
      refine wpIf_mk (fun hd => ?_) (fun hd => ?_)
      · simp at hd
        simp [go_sem]
        rw [precPt, if_neg (by omega), if_neg (by simpa using hc), List.getElem?_eq_none (by omega)]; simp [Pt.v]
      · simp at hd
        have hlt : res.toNat < prec.length := by omega
        have hx : prec[res.toNat]? = some prec[res.toNat] := by simp [hlt]
        have hrd := hs.rd_all hx rfl
        have had := hs.adr hx 0
        simp [go_sem, hlen, hs.plain, had, hrd, encP, hb.1, hd]
        rw [precPt, if_neg (by omega), if_neg (by simpa using hc), hx]; simp [Pt.v]
def gridN (r : R) (a b : Int) : Int := if r.empty then 0 else (cdiv r.x1 (2 ^ a.toNat) - fdiv r.x0 (2 ^ a.toNat)) * (cdiv r.y1 (2 ^ b.toNat) - fdiv r.y0 (2 ^ b.toNat))
theorem shl_one {a : Int} (h1 : a ≤ 20) : IntKind.i64.wrap (2 ^ min a.toNat 64) = 2 ^ a.toNat := by
  have hm : min a.toNat 64 = a.toNat := by omega
  rw [hm]
  have h2 : (2 : Int) ^ a.toNat ≤ 2 ^ 20 := by exact_mod_cast Nat.pow_le_pow_right (n := 2) (by omega) (show a.toNat ≤ 20 by omega)
  have h3 : (0 : Int) < 2 ^ a.toNat := Int.pow_pos (by omega)
  exact wrapI (by omega) (by omega)
theorem grid_ok (r : R) (hr : r.valid = true) (a b : Int) (ha : 0 ≤ a) (ha' : a ≤ 20) (hb : 0 ≤ b) (hb' : b ≤ 20) : Pure Tryz.prog 114 [r.v, .int .i64 a, .int .i64 b] (.int .i64 (gridN r a b)) := by
  intro m
  obtain ⟨h1, h2, h3, h4, h5, h6⟩ := R.of_valid hr
  have ea := shl_one ha'
  have eb := shl_one hb'
  refine cc_enter Tryz.func114 Tryz.ntmps114 rfl (by kernel_rfl) (by simp) ?_
  simp [go_sem, R.v]
  refine wpCall_pure (empty_ok r) ?_
  simp [go_sem]
  refine wpIf_mk (fun hc => ?_) (fun hc => ?_)
  · simp [go_sem, gridN, hc]
  · simp [go_sem]
    refine draw_rule [(0, 0), (1, 0), (2, 0), (3, 0), (5, 0), (6, 0), (7, 0), (8, 0), (4, 1), (9, 1), (10, 0), (11, 0)] (by kernel_rfl) (by simp [go_sem]) ?_
    simp [go_sem, ea, ha]
    refine wpCall_pure (cdiv_ok r.x1 (2 ^ a.toNat) (by omega) (by omega)) ?_
    simp [go_sem]
    refine wpCall_pure (fdiv_ok r.x0 (2 ^ a.toNat) (by omega) (by omega)) ?_
    simp [go_sem]
    refine draw_rule [(0, 0), (1, 0), (2, 0), (3, 0), (5, 0), (6, 0), (7, 0), (8, 0), (4, 1), (9, 1), (10, 0), (11, 0)] (by kernel_rfl) (by simp [go_sem]) ?_
    simp [go_sem, eb, hb]
    refine wpCall_pure (cdiv_ok r.y1 (2 ^ b.toNat) (by omega) (by omega)) ?_
    simp [go_sem]
    refine wpCall_pure (fdiv_ok r.y0 (2 ^ b.toNat) (by omega) (by omega)) ?_
    simp [go_sem]
    have c1 := cdiv_bd (a := r.x1) (b := 2 ^ a.toNat) (by omega); have c2 := fdiv_bd (a := r.x0) (b := 2 ^ a.toNat) (by omega)
    have c3 := cdiv_bd (a := r.y1) (b := 2 ^ b.toNat) (by omega); have c4 := fdiv_bd (a := r.y0) (b := 2 ^ b.toNat) (by omega)
    have h7 := mul_small (a := cdiv r.x1 (2 ^ a.toNat) - fdiv r.x0 (2 ^ a.toNat)) (b := cdiv r.y1 (2 ^ b.toNat) - fdiv r.y0 (2 ^ b.toNat)) (by omega) (by omega) (by omega) (by omega)
    rw [wrapI (x := cdiv r.x1 (2 ^ a.toNat) - fdiv r.x0 (2 ^ a.toNat)) (by omega) (by omega), wrapI (x := cdiv r.y1 (2 ^ b.toNat) - fdiv r.y0 (2 ^ b.toNat)) (by omega) (by omega), wrapI (by omega) (by omega), gridN, if_neg (by simp [hc])]
def precBad (x : Pt × Nat) : Bool := !inR x.1.x (min (x.2 : Int) 1) 12 || !inR x.1.y (min (x.2 : Int) 1) 12
def numB (p : Par) (prec : List Pt) (steps : List Int) : Bool :=
  inR p.levels 0 5 && inR p.bx 2 6 && inR p.bY 2 6 && inR p.layers 1 16 && inR p.dead 8 32 && inR p.shift 0 30 && decide ((steps.length : Int) = 3 * p.levels + 1) &&
  !steps.any (fun x => !inR x 1 65536) && (decide (prec.length = 0) || decide ((prec.length : Int) = p.levels + 1) && !prec.zipIdx.any precBad)
theorem numbers_ok (m : Mem) (p : Par) (vp vs : Value) (prec : List Pt) (steps : List Int) (hp : Sl encP 2 m vp prec) (hs : Sl encI 1 m vs steps) : PureAt Tryz.prog 71 [pv p vp vs] m (.bool (numB p prec steps)) := by
  have hlp := hp.len
  have hls := hs.len
  refine cc_enter Tryz.func71 Tryz.ntmps71 rfl (by kernel_rfl) (by simp) ?_
  simp [go_sem, pv, pc]
  refine wpCall_pure (in_ok p.levels 0 5) ?_
  simp [go_sem]
  refine wpGC_pure (by simp) (in_ok p.bx 2 6) ?_
  simp [go_sem]
  refine wpGC_pure (by simp) (in_ok p.bY 2 6) ?_
  simp [go_sem]
  refine wpGC_pure (by simp) (in_ok p.layers 1 16) ?_
  simp [go_sem]
  refine wpGC_pure (by simp) (in_ok p.dead 8 32) ?_
  simp [go_sem]
  refine wpGC_pure (by simp) (in_ok p.shift 0 30) ?_
  simp [go_sem, hls]
  refine wpIf_mk (fun hb => ?_) (fun hb => ?_)
  · simp [go_sem]
    cases h : numB p prec steps with
    | false => rfl
    | true =>
      exfalso
      simp [numB] at h
      obtain ⟨⟨⟨⟨⟨⟨⟨⟨k1, k2⟩, k3⟩, k4⟩, k5⟩, k6⟩, k7⟩, k8⟩, k9⟩ := h
      have hlev : 0 ≤ p.levels ∧ p.levels ≤ 5 := by simpa [inR] using k1
      have e3 : IntKind.i64.wrap (IntKind.i64.wrap (3 * p.levels) + 1) = 3 * p.levels + 1 := by rw [wrapI (x := 3 * p.levels) (by omega) (by omega), wrapI (by omega) (by omega)]
      simp [k1, k2, k3, k4, k5, k6, k7, e3] at hb
  · simp [go_sem]
    simp at hb
    have hlev : 0 ≤ p.levels ∧ p.levels ≤ 5 := by have := hb.1.1.1.1.1.1; simpa [inR] using this
    have e3 : IntKind.i64.wrap (IntKind.i64.wrap (3 * p.levels) + 1) = 3 * p.levels + 1 := by rw [wrapI (x := 3 * p.levels) (by omega) (by omega), wrapI (by omega) (by omega)]
    rw [e3] at hb
    refine loop_rule (fun i : Nat => ⟨[(3, .val (.int .i64 i)), (1, .loc 0 0)], [some (63, pc p vp vs)], m⟩)
      (fun i => i ≤ steps.length ∧ ∀ c ∈ steps.take i, inR c 1 65536 = true) (fun i => steps.length - i) 0 ⟨by omega, by simp⟩ (St.le_mk (by simp [go_sem]) (by simp [go_sem]) (by simp [go_sem, pc]) (Mem.le.refl _)) (fun i hJ => ?_)
    simp [go_sem, pc, hls]
    refine wpIf_mk (fun hc => ?_) (fun hc => ?_)
    · simp at hc
      obtain ⟨c, hx⟩ : ∃ c, steps[i]? = some c := ⟨steps[i], by simp [hc]⟩
      have hrd := hs.rd_all (j := (i : Int)) (x := c) (by simpa using hx) rfl
      have had := hs.adr (j := (i : Int)) (x := c) (by simpa using hx) 0
      simp [go_sem, hls, hc, hs.plain, had, hrd, encI]
      refine wpCall_pure (in_ok c 1 65536) ?_
      simp [go_sem]
      refine wpIf_mk (fun hd => ?_) (fun hd => ?_)
      · simp [go_sem]
        simp at hd
        have : steps.any (fun x => !inR x 1 65536) = true := any_true_at hx (by simp [hd])
        simp [numB, this]
      · simp [go_sem, wrapS hc hs.max]
        exact roundK_normal (i + 1) ⟨by omega, take_succ_all hx hJ.2 (by simpa using hd)⟩ (St.le_mk (by simp [go_sem]) (by simp [go_sem]) (by simp [go_sem, pc]) (Mem.le.refl _)) (by omega)
    · simp at hc
      have hany := any_false_take (p := fun x => !inR x 1 65536) (fun x hx => by have := hJ.2 x hx; simp [this]) hc
      have hpre : numB p prec steps = (decide (prec.length = 0) || decide ((prec.length : Int) = p.levels + 1) && !prec.zipIdx.any precBad) := by
        simp only [numB, hb.1.1.1.1.1.1, hb.1.1.1.1.1.2, hb.1.1.1.1.2, hb.1.1.1.2, hb.1.1.2, hb.1.2, hb.2, hany]; simp
      simp [go_sem, hlp]
      refine wpIf_mk (fun hd => ?_) (fun hd => ?_)
      · simp at hd
        simp [go_sem]
        rw [hpre]; simp [hd]
      · simp at hd
        simp [go_sem, hlp]
        have e4 : IntKind.i64.wrap (p.levels + 1) = p.levels + 1 := wrapI (by omega) (by omega)
        refine wpIf_mk (fun he => ?_) (fun he => ?_)
        · simp [e4] at he
          simp [go_sem]
          rw [hpre]; simp [hd, he]
        · simp [e4] at he
          simp [go_sem]
          refine loop_rule (fun i : Nat => ⟨[(4, .val (.int .i64 i)), (1, .loc 0 0)], [some (63, pc p vp vs)], m⟩)
            (fun i => i ≤ prec.length ∧ ∀ a b, (a, b) ∈ prec.zipIdx.take i → precBad (a, b) = false) (fun i => prec.length - i) 0 ⟨by omega, by simp⟩ (St.le_mk (by simp [go_sem]) (by simp [go_sem]) (by simp [go_sem, pc]) (Mem.le.refl _)) (fun i hJ => ?_)
          simp [go_sem, pc, hlp]
          refine wpIf_mk (fun hf => ?_) (fun hf => ?_)
          · simp at hf
            obtain ⟨c, hx⟩ : ∃ c, prec[i]? = some c := ⟨prec[i], by simp [hf]⟩
            have hx2 : prec.zipIdx[i]? = some (c, i) := by simp [List.getElem?_zipIdx, hx]
            have hx' : prec[((i : Nat) : Int).toNat]? = some c := by simpa using hx
            have hr0 := hp.rd (j := (i : Int)) (x := c) hx' (off := 0) (k := 1) (by simp [encP])
            have hr1 := hp.rd (j := (i : Int)) (x := c) hx' (off := 1) (k := 1) (by simp [encP])
            have ha0 := hp.adr (j := (i : Int)) (x := c) hx' 0
            have ha1 := hp.adr (j := (i : Int)) (x := c) hx' 1
            simp [go_sem, hlp, hf, hp.plain, ha0, ha1, hr0, hr1, encP]
            refine wpCall_pure (in_ok c.x (min (i : Int) 1) 12) ?_
            simp [go_sem, hlp, hf, hp.plain, ha0, ha1, hr0, hr1, encP]
            refine wpGC_pure (by simp) (in_ok c.y (min (i : Int) 1) 12) ?_
            simp [go_sem]
            refine wpIf_mk (fun hg => ?_) (fun hg => ?_)
            · simp [go_sem]
              have : prec.zipIdx.any precBad = true := any_true_at hx2 (by simpa [precBad] using hg)
              rw [hpre]; simp [hd, this]
            · simp [go_sem, wrapS hf hp.max]
              exact roundK_normal (i + 1) ⟨by omega, fun a b hab => take_succ_all (p := fun c => precBad c = false) hx2 (fun x hx => hJ.2 x.1 x.2 hx) (by simpa [precBad] using hg) (a, b) hab⟩ (St.le_mk (by simp [go_sem]) (by simp [go_sem]) (by simp [go_sem, pc]) (Mem.le.refl _)) (by omega)
          · simp at hf
            have hany2 := any_false_take (p := precBad) (fun x hx => hJ.2 x.1 x.2 hx) (by simpa using hf)
            simp [go_sem]
            rw [hpre]; simp [he, hany2]
end Go.Proofs.YtcidapidlgdacaaGreat
