import Derived.Test.YtcidapidlgdacaaGreatFsA
set_option linter.unusedVariables false
set_option linter.unusedSimpArgs false
namespace Go.Proofs.YtcidapidlgdacaaGreat
open Go.FL
set_option maxRecDepth 10000
structure Comp where
  depth : Int
  signed : Bool
  dx : Int
  dy : Int
def encC (c : Comp) : List Value := [.int .i64 c.depth, .bool c.signed, .int .i64 c.dx, .int .i64 c.dy]
def hv (r : R) (tw th : Int) (v : Value) : Value := .agg #[.int .i64 r.x0, .int .i64 r.y0, .int .i64 r.x1, .int .i64 r.y1, .int .i64 tw, .int .i64 th, v]
theorem cdiv_bd {a b : Int} (h0 : 0 ≤ a) : 0 ≤ cdiv a b ∧ cdiv a b ≤ a := by
  unfold cdiv
  split
  · omega
  · have hle : a / b ≤ a := Int.ediv_le_self b h0
    have h0' : 0 ≤ a / b := Int.ediv_nonneg h0 (by omega)
    split
    · rename_i hb hm
      refine ⟨by omega, ?_⟩
      have hd := Int.mul_ediv_add_emod a b
      have : a / b * 1 ≤ a / b * b := Int.mul_le_mul_of_nonneg_left (by omega) h0'
      rw [Int.mul_comm] at hd
      omega
    · omega
theorem fdiv_bd {a b : Int} (h0 : 0 ≤ a) : 0 ≤ fdiv a b ∧ fdiv a b ≤ a := by
  unfold fdiv
  split
  · omega
  · exact ⟨Int.ediv_nonneg h0 (by omega), Int.ediv_le_self b h0⟩
def tilesN (r : R) (tw th : Int) : Int := (cdiv r.x1 tw - fdiv r.x0 tw) * (cdiv r.y1 th - fdiv r.y0 th)
theorem mul_small {a b : Int} (h1 : -4096 ≤ a) (h2 : a ≤ 4096) (h3 : -4096 ≤ b) (h4 : b ≤ 4096) : -16777216 ≤ a * b ∧ a * b ≤ 16777216 := by
  have h5 : a * b ≤ (4096 : Int) * 4096 := by
    have k1 : (4096 - a) * (4096 + b) ≥ 0 := Int.mul_nonneg (by omega) (by omega)
    have k2 : (4096 + a) * (4096 - b) ≥ 0 := Int.mul_nonneg (by omega) (by omega)
    rw [Int.sub_mul, Int.mul_add] at k1
    rw [Int.add_mul, Int.mul_sub] at k2
    rw [Int.mul_add] at k1; rw [Int.mul_sub] at k2
    omega
  have h6 : -((4096 : Int) * 4096) ≤ a * b := by
    have k1 : (4096 - a) * (4096 - b) ≥ 0 := Int.mul_nonneg (by omega) (by omega)
    have k2 : (4096 + a) * (4096 + b) ≥ 0 := Int.mul_nonneg (by omega) (by omega)
    rw [Int.sub_mul, Int.mul_sub] at k1
    rw [Int.add_mul, Int.mul_add] at k2
    rw [Int.mul_sub] at k1; rw [Int.mul_add] at k2
    omega
  omega
theorem tiles_ok (r : R) (hr : r.valid = true) (tw th : Int) (v : Value) : Pure Tryz.prog 67 [hv r tw th v] (.int .i64 (tilesN r tw th)) := by
  intro m
  obtain ⟨h1, h2, h3, h4, h5, h6⟩ := R.of_valid hr
  refine cc_enter Tryz.func67 Tryz.ntmps67 rfl (by kernel_rfl) (by simp) ?_
  simp [go_sem, hv]
  refine draw_rule [(0, 0), (1, 0), (2, 0), (3, 0), (5, 0), (6, 0), (7, 0), (8, 0), (4, 1), (9, 1), (10, 0), (11, 0)] (by kernel_rfl) (by simp [go_sem]) ?_
  simp [go_sem]
  refine wpCall_pure (cdiv_ok r.x1 tw (by omega) (by omega)) ?_
  simp [go_sem]
  refine wpCall_pure (fdiv_ok r.x0 tw (by omega) (by omega)) ?_
  simp [go_sem]
  refine draw_rule [(0, 0), (1, 0), (2, 0), (3, 0), (5, 0), (6, 0), (7, 0), (8, 0), (4, 1), (9, 1), (10, 0), (11, 0)] (by kernel_rfl) (by simp [go_sem]) ?_
  simp [go_sem]
  refine wpCall_pure (cdiv_ok r.y1 th (by omega) (by omega)) ?_
  simp [go_sem]
  refine wpCall_pure (fdiv_ok r.y0 th (by omega) (by omega)) ?_
  simp [go_sem]
  have c1 := cdiv_bd (a := r.x1) (b := tw) (by omega); have c2 := fdiv_bd (a := r.x0) (b := tw) (by omega)
  have c3 := cdiv_bd (a := r.y1) (b := th) (by omega); have c4 := fdiv_bd (a := r.y0) (b := th) (by omega)
  have e1 : IntKind.i64.wrap (cdiv r.x1 tw - fdiv r.x0 tw) = cdiv r.x1 tw - fdiv r.x0 tw := wrapI (by omega) (by omega)
  have e2 : IntKind.i64.wrap (cdiv r.y1 th - fdiv r.y0 th) = cdiv r.y1 th - fdiv r.y0 th := wrapI (by omega) (by omega)
  have h7 := mul_small (a := cdiv r.x1 tw - fdiv r.x0 tw) (b := cdiv r.y1 th - fdiv r.y0 th) (by omega) (by omega) (by omega) (by omega)
  rw [e1, e2, tilesN, wrapI (by omega) (by omega)]
def compBad (r : R) (c : Comp) : Bool := !inR c.depth 1 16 || !inR c.dx 1 4 || !inR c.dy 1 4 || (r.reduce c.dx c.dy).empty
def hdrE (r : R) (tw th : Int) (l : List Comp) : Int :=
  if !r.valid || r.empty || !inR tw 1 4096 || !inR th 1 4096 || !inR (l.length : Int) 1 4 then 12 else
  if l.any (compBad r) then 12 else if tilesN r tw th > 1024 then 5 else if l.any (fun c => decide ((r.reduce c.dx c.dy).area > 1048576)) then 5 else 0
theorem header_ok (m : Mem) (r : R) (tw th : Int) (v : Value) (l : List Comp) (hs : Sl encC 4 m v l) : PureAt Tryz.prog 35 [hv r tw th v] m (.int .i64 (hdrE r tw th l)) := by
  refine cc_enter Tryz.func35 Tryz.ntmps35 rfl (by kernel_rfl) (by simp) ?_
  have hlen := hs.len
  simp [go_sem, hv]
  refine wpCall_pure (valid_ok r) ?_
  simp [go_sem]
  refine wpGC_pure (by simp) (empty_ok r) ?_
  simp [go_sem]
  refine wpGC_pure (by simp) (in_ok tw 1 4096) ?_
  simp [go_sem]
  refine wpGC_pure (by simp) (in_ok th 1 4096) ?_
  simp [go_sem, hlen]
  refine wpGC_pure (by simp) (in_ok (l.length : Int) 1 4) ?_
  simp [go_sem]
  refine wpIf_mk (fun hb => ?_) (fun hb => ?_)
  · simp [go_sem]
    rw [hdrE, if_pos]; simpa using hb
  · simp [go_sem]
    simp at hb
    refine loop_rule (fun i : Nat => ⟨[(3, .val (.int .i64 i)), (1, .loc 0 0)], [some (51, [.int .i64 r.x0, .int .i64 r.y0, .int .i64 r.x1, .int .i64 r.y1, .int .i64 tw, .int .i64 th, v])], m⟩)
      (fun i => i ≤ l.length ∧ ∀ c ∈ l.take i, compBad r c = false) (fun i => l.length - i) 0 ⟨by omega, by simp⟩ (St.le_mk (by simp [go_sem]) (by simp [go_sem]) (by simp [go_sem]) (Mem.le.refl _)) (fun i hJ => ?_)
    simp [go_sem, hlen]
    refine wpIf_mk (fun hc => ?_) (fun hc => ?_)
    · simp at hc
      obtain ⟨c, hx⟩ : ∃ c, l[i]? = some c := ⟨l[i], by simp [hc]⟩
      have hrd := hs.rd_all (j := (i : Int)) (x := c) (by simpa using hx) rfl
      have had := hs.adr (j := (i : Int)) (x := c) (by simpa using hx) 0
      simp [go_sem, hlen, hc, hs.plain, had, hrd, encC]
      refine wpCall_pure (in_ok c.depth 1 16) ?_
      simp [go_sem]
      refine wpGC_pure (by simp) (in_ok c.dx 1 4) ?_
      simp [go_sem]
      refine wpGC_pure (by simp) (in_ok c.dy 1 4) ?_
      simp [go_sem]
      refine wpGC_pure (by simp) (reduce_ok r c.dx c.dy) ?_
      simp [go_sem]
      refine wpGC_pure (by simp) (empty_ok (r.reduce c.dx c.dy)) ?_
      simp [go_sem]
      refine wpIf_mk (fun hd => ?_) (fun hd => ?_)
      · simp [go_sem]
        rw [hdrE, if_neg (by simpa using hb), if_pos (any_true_at hx hd)]
      · simp [go_sem, wrapS hc hs.max]
        exact roundK_normal (i + 1) ⟨by omega, take_succ_all hx hJ.2 hd⟩ (St.le_mk (by simp [go_sem]) (by simp [go_sem]) (by simp [go_sem]) (Mem.le.refl _)) (by omega)
    · simp at hc
      have hany := any_false_take hJ.2 hc
      simp [go_sem]
      refine wpCall_pure (tiles_ok r hb.1.1.1.1 tw th v) ?_
      simp [go_sem]
      refine wpIf_mk (fun hd => ?_) (fun hd => ?_)
      · simp at hd
        simp [go_sem]
        rw [hdrE, if_neg (by simpa using hb), if_neg (by simp [hany]), if_pos hd]
      · simp at hd
        simp [go_sem]
        refine loop_rule (fun i : Nat => ⟨[(5, .val (.int .i64 i)), (1, .loc 0 0)], [some (51, [.int .i64 r.x0, .int .i64 r.y0, .int .i64 r.x1, .int .i64 r.y1, .int .i64 tw, .int .i64 th, v])], m⟩)
          (fun i => i ≤ l.length ∧ ∀ c ∈ l.take i, (r.reduce c.dx c.dy).area ≤ 1048576) (fun i => l.length - i) 0 ⟨by omega, by simp⟩ (St.le_mk (by simp [go_sem]) (by simp [go_sem]) (by simp [go_sem]) (Mem.le.refl _)) (fun i hJ => ?_)
        simp [go_sem, hlen]
        refine wpIf_mk (fun hc => ?_) (fun hc => ?_)
        · simp at hc
          obtain ⟨c, hx⟩ : ∃ c, l[i]? = some c := ⟨l[i], by simp [hc]⟩
          have hrd := hs.rd_all (j := (i : Int)) (x := c) (by simpa using hx) rfl
          have had := hs.adr (j := (i : Int)) (x := c) (by simpa using hx) 0
          simp [go_sem, hlen, hc, hs.plain, had, hrd, encC]
          refine wpCall_pure (reduce_ok r c.dx c.dy) ?_
          simp [go_sem]
          refine wpCall_pure (area_ok (r.reduce c.dx c.dy)) ?_
          simp [go_sem]
          refine wpIf_mk (fun he => ?_) (fun he => ?_)
          · simp [go_sem]
            rw [hdrE, if_neg (by simpa using hb), if_neg (by simp [hany]), if_neg (by omega), if_pos (any_true_at hx he)]
          · simp [go_sem, wrapS hc hs.max]
            exact roundK_normal (i + 1) ⟨by omega, take_succ_all hx hJ.2 (by simpa using he)⟩ (St.le_mk (by simp [go_sem]) (by simp [go_sem]) (by simp [go_sem]) (Mem.le.refl _)) (by omega)
        · simp at hc
          have hany2 := any_false_take (p := fun c : Comp => decide ((r.reduce c.dx c.dy).area > 1048576)) (fun x hx => by have := hJ.2 x hx; simpa using this) hc
          simp [go_sem]
          rw [hdrE, if_neg (by simpa using hb), if_neg (by simp [hany]), if_neg (by omega), if_neg (by simp [hany2])]
end Go.Proofs.YtcidapidlgdacaaGreat
