import Derived.Test.YtcidapidlgdacaaGreatFsH
set_option linter.unusedVariables false
set_option linter.unusedSimpArgs false
namespace Go.Proofs.YtcidapidlgdacaaGreat
open Go.FL
set_option maxRecDepth 10000
theorem hdr_zero {r : R} {tw th : Int} {l : List Comp} (h : hdrE r tw th l = 0) : r.valid = true ∧ r.empty = false ∧ 1 ≤ tw ∧ tw ≤ 4096 ∧ 1 ≤ th ∧ th ≤ 4096 := by
  unfold hdrE at h
  split at h
  · cases h
  · rename_i h1
    simp [inR] at h1
    exact ⟨h1.1.1.1.1, h1.1.1.1.2, h1.1.1.2.1, h1.1.1.2.2, h1.1.2.1, h1.1.2.2⟩
def neqC (a b : Comp) : Bool := !(a.depth == b.depth && (a.signed == b.signed && (a.dx == b.dx && a.dy == b.dy)))
def colBad (l : List Comp) : Bool := match l with
  | c0 :: c1 :: c2 :: _ => neqC c0 c1 || neqC c0 c2
  | _ => true
def cellBad (p : Par) (prec : List Pt) (l : List Comp) (q : R) : Bool := decide (65536 < packetsN p prec l q) || decide (65536 < blocksN p prec l q)
def checkE (r : R) (tw th : Int) (l : List Comp) (p : Par) (prec : List Pt) (steps : List Int) : Int :=
  if hdrE r tw th l ≠ 0 then hdrE r tw th l else if !kindsB p then 3 else if !numB p prec steps then 13 else if (p.color != 0 && colBad l) = true then 13 else
  if (cellsL r tw th).any (cellBad p prec l) then 5 else 0
theorem check_ok (m : Mem) (r : R) (tw th : Int) (v vp vs : Value) (l : List Comp) (p : Par) (prec : List Pt) (steps : List Int) (hl : Sl encC 4 m v l) (hp : Sl encP 2 m vp prec) (hs : Sl encI 1 m vs steps)
    (Q : Ending → Mem → Prop) (hQ : ∀ m', m.le m' → Q (.returned (.int .i64 (checkE r tw th l p prec steps))) m') : CC Tryz.prog 38 [hv r tw th v, pv p vp vs] m Q := by
  have hlen := hl.len
  refine cc_enter Tryz.func38 Tryz.ntmps38 rfl (by kernel_rfl) (by simp) ?_
  simp -implicitDefEqProofs [go_sem, hv, pv, pc]
  refine wpCall_at (header_ok m r tw th v l hl) ?_
  simp -implicitDefEqProofs [go_sem]
  refine wpIf_mk (fun h1 => ?_) (fun h1 => ?_)
  · simp at h1
    simp -implicitDefEqProofs [go_sem]
    have := hQ m (Mem.le.refl _)
    rwa [checkE, if_pos h1] at this
  · simp at h1
    obtain ⟨g1, g2, g3, g4, g5, g6⟩ := hdr_zero h1
    simp -implicitDefEqProofs [go_sem]
    refine wpCall_pure (kinds_ok p vp vs) ?_
    simp -implicitDefEqProofs [go_sem]
    refine wpIf_mk (fun h2 => ?_) (fun h2 => ?_)
    · simp at h2
      simp -implicitDefEqProofs [go_sem]
      have := hQ m (Mem.le.refl _)
      rwa [checkE, if_neg (by simpa using h1), if_pos (by simpa using h2)] at this
    · simp at h2
      simp -implicitDefEqProofs [go_sem]
      refine wpCall_at (numbers_ok m p vp vs prec steps hp hs) ?_
      simp -implicitDefEqProofs [go_sem]
      refine wpIf_mk (fun h3 => ?_) (fun h3 => ?_)
      · simp at h3
        simp -implicitDefEqProofs [go_sem]
        have := hQ m (Mem.le.refl _)
        rwa [checkE, if_neg (by simpa using h1), if_neg (by simpa using h2), if_pos (by simpa using h3)] at this
      · simp at h3
        obtain ⟨n1, n2, n3, n4, n5, n6, n7, n8, n9⟩ := precOk_of h3
        simp -implicitDefEqProofs [go_sem]
        refine wpIf_mk (fun h4 => ?_) (fun h4 => ?_)
        · simp at h4
          simp -implicitDefEqProofs [go_sem]
          by_cases h7 : l.length < 3
          · refine draw_rule [(0, 0), (1, 0), (2, 0), (3, 0), (4, 0), (5, 4), (6, 4), (7, 4), (8, 4), (9, 4), (10, 4), (11, 4), (12, 4), (13, 4), (14, 0), (15, 0), (16, 4), (17, 4), (18, 4), (19, 4), (20, 4), (21, 4), (22, 4), (23, 4), (24, 4), (25, 0)] (by kernel_rfl) (by simp [go_sem]) ?_
            have h7' : ((l.length : Int) < 3) := by omega
            simp -implicitDefEqProofs [go_sem, hlen, h7']
            have hb : colBad l = true := by
              unfold colBad; split
              · simp at h7; omega
              · rfl
            have := hQ m (Mem.le.refl _)
            rwa [checkE, if_neg (by simpa using h1), if_neg (by simpa using h2), if_neg (by simpa using h3), if_pos (by simp [h4, hb])] at this
          · obtain ⟨c0, c1, c2, l', rfl⟩ : ∃ c0 c1 c2 l', l = c0 :: c1 :: c2 :: l' := by
              match l, h7 with
              | c0 :: c1 :: c2 :: l', _ => exact ⟨c0, c1, c2, l', rfl⟩
              | [], h => exact absurd (by simp) h
              | [_], h => exact absurd (by simp) h
              | [_, _], h => exact absurd (by simp) h
            have r0 := hl.rd_all (j := 0) (x := c0) (by rfl) rfl
            have r1 := hl.rd_all (j := 1) (x := c1) (by rfl) rfl
            have r2 := hl.rd_all (j := 2) (x := c2) (by rfl) rfl
            have a0 := hl.adr (j := 0) (x := c0) (by rfl) 0
            have a1 := hl.adr (j := 1) (x := c1) (by rfl) 0
            have a2 := hl.adr (j := 2) (x := c2) (by rfl) 0
            simp only [List.length_cons] at hlen
            refine draw_rule [(0, 0), (1, 0), (2, 0), (3, 0), (4, 0), (5, 0), (6, 0), (7, 0), (8, 0), (9, 0), (10, 0), (11, 0), (12, 0), (13, 0), (14, 0), (15, 0), (16, 0), (17, 0), (18, 0), (19, 0), (20, 0), (21, 0), (22, 0), (23, 0), (24, 0), (25, 0)] (by kernel_rfl) (by simp [go_sem]) ?_
            have hA : ¬ ((l'.length : Int) + 1 + 1 + 1 < 3) := by omega
            have hB : (0 : Int) < (l'.length : Int) + 1 + 1 + 1 := by omega
            have hC : (1 : Int) < (l'.length : Int) + 1 + 1 + 1 := by omega
            have hD : (2 : Int) < (l'.length : Int) + 1 + 1 + 1 := by omega
            simp -implicitDefEqProofs [go_sem, hlen, hl.plain, r0, r1, r2, a0, a1, a2, encC, hA, hB, hC, hD]
            generalize hll : c0 :: c1 :: c2 :: l' = l at *
            refine wpIf_mk (fun h8 => ?_) (fun h8 => ?_)
            · simp -implicitDefEqProofs [go_sem]
              have hb : colBad l = true := by rw [← hll]; simpa [colBad, neqC] using h8
              have := hQ m (Mem.le.refl _)
              rwa [checkE, if_neg (by simpa using h1), if_neg (by simpa using h2), if_neg (by simpa using h3), if_pos (by simp [h4, hb])] at this
            · have hb : colBad l = false := by rw [← hll]; simpa [colBad, neqC] using h8
              have hcol : (p.color != 0 && colBad l) = false := by simp [hb]
              simp -implicitDefEqProofs [go_sem]
              refine cells_ok m r tw th g4 g6 _ (fun vq m' hle hown => ⟨vq, rfl, ?_⟩)
              have hq := hown.sl (fun _ => rfl)
              have hql := hq.len
              simp -implicitDefEqProofs [go_sem]
              refine loop_rule (fun i : Nat => ⟨[(7, .val (.int .i64 i)), (6, .val vq), (2, .loc 0 0), (3, .loc 1 0)], [some (51, hc r tw th v), some (63, pc p vp vs)], m'⟩)
                (fun i => i ≤ (cellsL r tw th).length ∧ ∀ q ∈ (cellsL r tw th).take i, cellBad p prec l q = false) (fun i => (cellsL r tw th).length - i) 0 ⟨by omega, by simp⟩ (St.le_mk (by simp [go_sem]) (by simp [go_sem]) (by simp [go_sem, pc, hc]) (Mem.le.refl _)) (fun i hJ => ?_)
              simp -implicitDefEqProofs [go_sem, hql]
              refine wpIf_mk (fun h5 => ?_) (fun h5 => ?_)
              · simp at h5
                obtain ⟨q, hx⟩ : ∃ q, (cellsL r tw th)[i]? = some q := ⟨(cellsL r tw th)[i], by simp [h5]⟩
                have hx' : (cellsL r tw th)[((i : Nat) : Int).toNat]? = some q := by simpa using hx
                have hrd := hq.rd_all hx' rfl
                have had := hq.adr hx' 0
                simp -implicitDefEqProofs [go_sem]
                refine draw_rule [(0, 0), (1, 0), (2, 0), (3, 0), (4, 0), (5, 0), (6, 1), (7, 0), (8, 0), (9, 0), (10, 0), (11, 0), (12, 0), (13, 0), (14, 0), (15, 1), (16, 0), (17, 0)] (by kernel_rfl) (by simp [go_sem]) ?_
                simp -implicitDefEqProofs [go_sem, hql, h5, hq.plain, had, hrd, pc, hc, encR]
                refine wpCall_at (packets_ok m' r tw th v vp vs l p prec q (hl.le hle) (hp.le hle) n1 n2 n3) ?_
                simp -implicitDefEqProofs [go_sem, hql, h5, hq.plain, had, hrd, pc, hc, encR]
                refine wpGC_at (fun hc => ⟨by simpa using hc, blocks_ok m' r tw th v vp vs l p prec q (hl.le hle) (hp.le hle) n1 n2 n3 ⟨by omega, n5⟩ ⟨by omega, n7⟩⟩) ?_
                simp -implicitDefEqProofs [go_sem]
                refine wpIf_mk (fun h6 => ?_) (fun h6 => ?_)
                · simp -implicitDefEqProofs [go_sem]
                  have := hQ m' hle
                  rwa [checkE, if_neg (by simpa using h1), if_neg (by simpa using h2), if_neg (by simpa using h3), if_neg (by simpa using hcol), if_pos (any_true_at hx (by simpa [cellBad] using h6))] at this
                · simp -implicitDefEqProofs [go_sem, wrapS h5 hq.max]
                  exact roundK_normal (i + 1) ⟨by omega, take_succ_all hx hJ.2 (by simpa [cellBad] using h6)⟩ (St.le_mk (by simp [go_sem]) (by simp [go_sem]) (by simp [go_sem, pc, hc]) (Mem.le.refl _)) (by omega)
              · simp at h5
                have hany := any_false_take hJ.2 h5
                simp -implicitDefEqProofs [go_sem]
                have := hQ m' hle
                rwa [checkE, if_neg (by simpa using h1), if_neg (by simpa using h2), if_neg (by simpa using h3), if_neg (by simpa using hcol), if_neg (by simp [hany])] at this
        · simp at h4
          have hcol : (p.color != 0 && colBad l) = false := by simp [h4]
          simp -implicitDefEqProofs [go_sem]
          refine cells_ok m r tw th g4 g6 _ (fun vq m' hle hown => ⟨vq, rfl, ?_⟩)
          have hq := hown.sl (fun _ => rfl)
          have hql := hq.len
          simp -implicitDefEqProofs [go_sem]
          refine loop_rule (fun i : Nat => ⟨[(7, .val (.int .i64 i)), (6, .val vq), (2, .loc 0 0), (3, .loc 1 0)], [some (51, hc r tw th v), some (63, pc p vp vs)], m'⟩)
            (fun i => i ≤ (cellsL r tw th).length ∧ ∀ q ∈ (cellsL r tw th).take i, cellBad p prec l q = false) (fun i => (cellsL r tw th).length - i) 0 ⟨by omega, by simp⟩ (St.le_mk (by simp [go_sem]) (by simp [go_sem]) (by simp [go_sem, pc, hc]) (Mem.le.refl _)) (fun i hJ => ?_)
          simp -implicitDefEqProofs [go_sem, hql]
          refine wpIf_mk (fun h5 => ?_) (fun h5 => ?_)
          · simp at h5
            obtain ⟨q, hx⟩ : ∃ q, (cellsL r tw th)[i]? = some q := ⟨(cellsL r tw th)[i], by simp [h5]⟩
            have hx' : (cellsL r tw th)[((i : Nat) : Int).toNat]? = some q := by simpa using hx
            have hrd := hq.rd_all hx' rfl
            have had := hq.adr hx' 0
            simp -implicitDefEqProofs [go_sem]
            refine draw_rule [(0, 0), (1, 0), (2, 0), (3, 0), (4, 0), (5, 0), (6, 1), (7, 0), (8, 0), (9, 0), (10, 0), (11, 0), (12, 0), (13, 0), (14, 0), (15, 1), (16, 0), (17, 0)] (by kernel_rfl) (by simp [go_sem]) ?_
            simp -implicitDefEqProofs [go_sem, hql, h5, hq.plain, had, hrd, pc, hc, encR]
            refine wpCall_at (packets_ok m' r tw th v vp vs l p prec q (hl.le hle) (hp.le hle) n1 n2 n3) ?_
            simp -implicitDefEqProofs [go_sem, hql, h5, hq.plain, had, hrd, pc, hc, encR]
            refine wpGC_at (fun hc => ⟨by simpa using hc, blocks_ok m' r tw th v vp vs l p prec q (hl.le hle) (hp.le hle) n1 n2 n3 ⟨by omega, n5⟩ ⟨by omega, n7⟩⟩) ?_
            simp -implicitDefEqProofs [go_sem]
            refine wpIf_mk (fun h6 => ?_) (fun h6 => ?_)
            · simp -implicitDefEqProofs [go_sem]
              have := hQ m' hle
              rwa [checkE, if_neg (by simpa using h1), if_neg (by simpa using h2), if_neg (by simpa using h3), if_neg (by simpa using hcol), if_pos (any_true_at hx (by simpa [cellBad] using h6))] at this
            · simp -implicitDefEqProofs [go_sem, wrapS h5 hq.max]
              exact roundK_normal (i + 1) ⟨by omega, take_succ_all hx hJ.2 (by simpa [cellBad] using h6)⟩ (St.le_mk (by simp [go_sem]) (by simp [go_sem]) (by simp [go_sem, pc, hc]) (Mem.le.refl _)) (by omega)
          · simp at h5
            have hany := any_false_take hJ.2 h5
            simp -implicitDefEqProofs [go_sem]
            have := hQ m' hle
            rwa [checkE, if_neg (by simpa using h1), if_neg (by simpa using h2), if_neg (by simpa using h3), if_neg (by simpa using hcol), if_neg (by simp [hany])] at this
end Go.Proofs.YtcidapidlgdacaaGreat
