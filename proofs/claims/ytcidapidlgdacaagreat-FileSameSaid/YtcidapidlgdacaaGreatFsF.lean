import Derived.Test.YtcidapidlgdacaaGreatFsE
set_option linter.unusedVariables false
set_option linter.unusedSimpArgs false
namespace Go.Proofs.YtcidapidlgdacaaGreat
open Go.FL
set_option maxRecDepth 10000
def encR (r : R) : List Value := [.int .i64 r.x0, .int .i64 r.y0, .int .i64 r.x1, .int .i64 r.y1]
def cellAt (r : R) (w h i j : Int) : R := r.inter ⟨i * w, j * h, i * w + w, j * h + h⟩
def cellRow (r : R) (w h left : Int) (j : Int) (n : Nat) : List R := (List.range n).map fun i => cellAt r w h (left + (i : Nat)) j
def cellRows (r : R) (w h left top : Int) (cols : Nat) (k : Nat) : List R := (List.range k).flatMap fun j => cellRow r w h left (top + (j : Nat)) cols
def cellsL (r : R) (w h : Int) : List R :=
  if !r.valid || r.empty || decide (w < 1) || decide (h < 1) then [] else
  if (cdiv r.x1 w - fdiv r.x0 w) * (cdiv r.y1 h - fdiv r.y0 h) > 65536 then [] else
  cellRows r w h (fdiv r.x0 w) (fdiv r.y0 h) (cdiv r.x1 w - fdiv r.x0 w).toNat (cdiv r.y1 h - fdiv r.y0 h).toNat
theorem cellRow_succ (r : R) (w h left j : Int) (n : Nat) : cellRow r w h left j (n + 1) = cellRow r w h left j n ++ [cellAt r w h (left + n) j] := by
  simp [cellRow, List.range_succ]
theorem cellRows_succ (r : R) (w h left top : Int) (cols k : Nat) : cellRows r w h left top cols (k + 1) = cellRows r w h left top cols k ++ cellRow r w h left (top + k) cols := by
  simp [cellRows, List.range_succ]
theorem cellRow_len (r : R) (w h left j : Int) (n : Nat) : (cellRow r w h left j n).length = n := by simp [cellRow]
theorem cellRows_len (r : R) (w h left top : Int) (cols k : Nat) : (cellRows r w h left top cols k).length = k * cols := by
  induction k with
  | zero => simp [cellRows]
  | succ k ih => rw [cellRows_succ, List.length_append, ih, cellRow_len, Nat.add_mul]; omega
theorem cdiv_gt {a b i : Int} (h0 : 0 ≤ a) (hb : 1 ≤ b) (hi : 0 ≤ i) (h : i < cdiv a b) : i * b < a := by
  have h1 := Int.mul_ediv_add_emod a b
  have h2 := Int.emod_nonneg a (show b ≠ 0 by omega)
  have h3 := Int.emod_lt_of_pos a (show 0 < b by omega)
  unfold cdiv at h
  rw [if_neg (by omega)] at h
  split at h
  · have h4 : i * b ≤ (a / b) * b := Int.mul_le_mul_of_nonneg_right (by omega) (by omega)
    rw [Int.mul_comm (a / b)] at h4; omega
  · have h4 : (i + 1) * b ≤ (a / b) * b := Int.mul_le_mul_of_nonneg_right (by omega) (by omega)
    rw [Int.mul_comm (a / b), Int.add_mul] at h4; omega
theorem cells_ok (m : Mem) (r : R) (w h : Int) (hw : w ≤ 4096) (hh : h ≤ 4096)
    (Q : Ending → Mem → Prop) (hR : ∀ v m', m.le m' → Own encR 4 48 m m' v (cellsL r w h) → Q (.returned v) m') : CC Tryz.prog 69 [r.v, .int .i64 w, .int .i64 h] m Q := by
  refine cc_enter Tryz.func69 Tryz.ntmps69 rfl (by kernel_rfl) (by simp) ?_
  simp -implicitDefEqProofs [go_sem, R.v]
  refine wpCall_pure (valid_ok r) ?_
  simp -implicitDefEqProofs [go_sem]
  refine wpGC_pure (by simp) (empty_ok r) ?_
  simp -implicitDefEqProofs [go_sem]
  refine wpIf_mk (fun hb => ?_) (fun hb => ?_)
  · simp -implicitDefEqProofs [go_sem]
    have : cellsL r w h = [] := by rw [cellsL, if_pos (by simpa using hb)]
    exact hR _ _ (Mem.le.refl _) (.inl ⟨rfl, this⟩)
  · simp at hb
    obtain ⟨h1, h2, h3, h4, h5, h6⟩ := R.of_valid hb.1.1.1
    have f1 := fdiv_ok r.x0 w (by omega) (by omega)
    have f2 := cdiv_ok r.x1 w (by omega) (by omega)
    have f3 := fdiv_ok r.y0 h (by omega) (by omega)
    have f4 := cdiv_ok r.y1 h (by omega) (by omega)
    have c1 := cdiv_bd (a := r.x1) (b := w) (by omega); have c2 := fdiv_bd (a := r.x0) (b := w) (by omega)
    have c3 := cdiv_bd (a := r.y1) (b := h) (by omega); have c4 := fdiv_bd (a := r.y0) (b := h) (by omega)
    have g1 : ∀ i, 0 ≤ i → i < cdiv r.x1 w → i * w < r.x1 := fun i h0 hi => cdiv_gt (by omega) (by omega) h0 hi
    have g2 : ∀ i, 0 ≤ i → i < cdiv r.y1 h → i * h < r.y1 := fun i h0 hi => cdiv_gt (by omega) (by omega) h0 hi
    have hcl : cellsL r w h = if (cdiv r.x1 w - fdiv r.x0 w) * (cdiv r.y1 h - fdiv r.y0 h) > 65536 then [] else cellRows r w h (fdiv r.x0 w) (fdiv r.y0 h) (cdiv r.x1 w - fdiv r.x0 w).toNat (cdiv r.y1 h - fdiv r.y0 h).toNat := by
      rw [cellsL, if_neg (by simp [hb.1.1.1, hb.1.1.2]; omega)]
    obtain ⟨left, hleft⟩ : ∃ x, x = fdiv r.x0 w := ⟨_, rfl⟩
    obtain ⟨right, hright⟩ : ∃ x, x = cdiv r.x1 w := ⟨_, rfl⟩
    obtain ⟨top, htop⟩ : ∃ x, x = fdiv r.y0 h := ⟨_, rfl⟩
    obtain ⟨bot, hbot⟩ : ∃ x, x = cdiv r.y1 h := ⟨_, rfl⟩
    rw [← hleft] at f1 c2; rw [← hright] at f2 c1 g1; rw [← htop] at f3 c4; rw [← hbot] at f4 c3 g2
    rw [← hleft, ← hright, ← htop, ← hbot] at hcl
    have h7 := mul_small (a := right - left) (b := bot - top) (by omega) (by omega) (by omega) (by omega)
    have e1 : IntKind.i64.wrap (right - left) = right - left := wrapI (by omega) (by omega)
    have e2 : IntKind.i64.wrap (bot - top) = bot - top := wrapI (by omega) (by omega)
    have e3 : IntKind.i64.wrap ((right - left) * (bot - top)) = (right - left) * (bot - top) := wrapI (by omega) (by omega)
    simp -implicitDefEqProofs [go_sem]
    refine wpCall_pure f1 ?_
    simp -implicitDefEqProofs [go_sem]
    refine wpCall_pure f2 ?_
    simp -implicitDefEqProofs [go_sem]
    refine wpCall_pure f3 ?_
    simp -implicitDefEqProofs [go_sem]
    refine wpCall_pure f4 ?_
    simp -implicitDefEqProofs [go_sem, e1, e2, e3]
    refine wpIf_mk (fun hc => ?_) (fun hc => ?_)
    · simp at hc
      simp -implicitDefEqProofs [go_sem]
      exact hR _ _ (Mem.le.refl _) (.inl ⟨rfl, by rw [hcl, if_pos hc]⟩)
    · simp at hc
      rw [if_neg (by omega)] at hcl
      simp -implicitDefEqProofs [go_sem]
      refine loop_rule (fun x : Nat × Mem × Value => ⟨[(12, .val (.int .i64 (top + x.1))), (11, .val x.2.2), (7, .val (.int .i64 left)), (8, .val (.int .i64 right)), (10, .val (.int .i64 bot)), (1, .val (.int .i64 w)), (2, .val (.int .i64 h)), (3, .loc 0 0)], [some (48, [.int .i64 r.x0, .int .i64 r.y0, .int .i64 r.x1, .int .i64 r.y1])], x.2.1⟩)
        (fun x => (x.1 ≤ (bot - top).toNat) ∧ m.le x.2.1 ∧ Own encR 4 48 m x.2.1 x.2.2 (cellRows r w h left top (right - left).toNat x.1)) (fun x => (bot - top).toNat - x.1) (0, m, .slice none 0 0) ⟨by omega, Mem.le.refl _, by exact .inl ⟨rfl, by simp [cellRows]⟩⟩
        (St.le_mk (by simp -implicitDefEqProofs [go_sem]) (by simp -implicitDefEqProofs [go_sem]) (by simp -implicitDefEqProofs [go_sem]) (Mem.le.refl _)) (fun ⟨k, mk, vk⟩ ⟨hk, hmk, hok⟩ => ?_)
      simp -implicitDefEqProofs [go_sem]
      simp only at hk hmk hok
      have hrows : (bot - top).toNat ≤ 4096 := by omega
      have hcols : (right - left).toNat ≤ 4096 := by omega
      have hkc : k * (right - left).toNat ≤ 4096 * 4096 := Nat.mul_le_mul (by omega) hcols
      refine wpIf_mk (fun hd => ?_) (fun hd => ?_)
      · simp at hd
        have hJ1 := g2 (top + k) (by omega) hd
        have hJ0 : 0 ≤ (top + k) * h := Int.mul_nonneg (by omega) (by omega)
        have ej : IntKind.i64.wrap ((top + k) * h) = (top + k) * h := wrapI (by omega) (by omega)
        have ej2 : IntKind.i64.wrap ((top + k) * h + h) = (top + k) * h + h := wrapI (by omega) (by omega)
        have ej3 : IntKind.i64.wrap (top + k + 1) = top + k + 1 := wrapI (by omega) (by omega)
        simp -implicitDefEqProofs [go_sem]
        refine loop_rule (fun x : Nat × Mem × Value => ⟨[(13, .val (.int .i64 (left + x.1))), (11, .val x.2.2), (12, .val (.int .i64 (top + k))), (7, .val (.int .i64 left)), (8, .val (.int .i64 right)), (10, .val (.int .i64 bot)), (1, .val (.int .i64 w)), (2, .val (.int .i64 h)), (3, .loc 0 0)], [some (48, [.int .i64 r.x0, .int .i64 r.y0, .int .i64 r.x1, .int .i64 r.y1])], x.2.1⟩)
          (fun x => (x.1 ≤ (right - left).toNat) ∧ m.le x.2.1 ∧ Own encR 4 48 m x.2.1 x.2.2 (cellRows r w h left top (right - left).toNat k ++ cellRow r w h left (top + k) x.1)) (fun x => (right - left).toNat - x.1) (0, mk, vk) ⟨by omega, hmk, by simpa [cellRow] using hok⟩
          (St.le_mk (by simp [go_sem]) (by simp [go_sem]) (by simp [go_sem]) (Mem.le.refl _)) (fun ⟨i, mi, vi⟩ ⟨hi, hmi, hoi⟩ => ?_)
        simp only at hi hmi hoi
        simp -implicitDefEqProofs [go_sem]
        refine wpIf_mk (fun he => ?_) (fun he => ?_)
        · simp at he
          have hI1 := g1 (left + i) (by omega) he
          have hI0 : 0 ≤ (left + i) * w := Int.mul_nonneg (by omega) (by omega)
          have ei : IntKind.i64.wrap ((left + i) * w) = (left + i) * w := wrapI (by omega) (by omega)
          have ei2 : IntKind.i64.wrap ((left + i) * w + w) = (left + i) * w + w := wrapI (by omega) (by omega)
          have ei3 : IntKind.i64.wrap (left + i + 1) = left + i + 1 := wrapI (by omega) (by omega)
          simp -implicitDefEqProofs [go_sem, ei, ei2, ej, ej2]
          refine wpCall_pure (inter_ok r ⟨(left + i) * w, (top + k) * h, (left + i) * w + w, (top + k) * h + h⟩) ?_
          simp -implicitDefEqProofs [go_sem, R.v]
          have hl := cellRows_len r w h left top (right - left).toNat k
          have hl2 := cellRow_len r w h left (top + k) i
          refine sem_append (enc := encR) (sz := 4) (e := 48) (T := 102) (m0 := m) (l := cellRows r w h left top (right - left).toNat k ++ cellRow r w h left (top + k) i) (l2 := [cellAt r w h (left + i) (top + k)]) rfl rfl tb_elem102 tb_zero48 rfl (by omega) rfl hmi hoi (.inl ⟨1, 48, rfl, rfl⟩) (fun _ => rfl)
            (by simp [encR, Value.oneCell']) (by rw [List.length_append, hl, hl2]; simp [maxLen]; omega) (by rw [List.length_append, hl, hl2]; simp; omega) (fun v' m' k1 k2 k3 k4 => ?_)
          simp -implicitDefEqProofs [go_sem, ei3]
          exact roundK_normal (i + 1, m', v') ⟨by simp only; omega, k1, by simp only; rw [cellRow_succ, ← List.append_assoc]; exact k2⟩ (St.le_mk (by simp [go_sem, Int.add_assoc]) (by simp [go_sem]) (by simp [go_sem]) (Mem.le.refl _)) (by simp only; omega)
        · simp at he
          have hii : i = (right - left).toNat := by omega
          simp -implicitDefEqProofs [go_sem, ej3]
          exact roundK_normal (k + 1, mi, vi) ⟨by simp only; omega, hmi, by simp only; rw [cellRows_succ, ← hii]; rw [hii] at hoi ⊢; exact hoi⟩ (St.le_mk (by simp [go_sem, Int.add_assoc]) (by simp [go_sem]) (by simp [go_sem]) (Mem.le.refl _)) (by simp only; omega)
      · simp at hd
        have hkk : k = (bot - top).toNat := by omega
        simp -implicitDefEqProofs [go_sem]
        refine hR _ _ hmk ?_
        rw [hcl, ← hkk]; exact hok
end Go.Proofs.YtcidapidlgdacaaGreat
