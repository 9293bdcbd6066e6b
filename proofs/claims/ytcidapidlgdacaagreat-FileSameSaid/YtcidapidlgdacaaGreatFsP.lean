import Derived.Test.YtcidapidlgdacaaGreatFsO
set_option linter.unusedVariables false
set_option linter.unusedSimpArgs false
namespace Go.Proofs.YtcidapidlgdacaaGreat
open Go.FL
set_option maxRecDepth 10000
theorem ruE_zero {b : List UInt8} {at' n : Int} (h : ruE b at' n = 0) : 1 ≤ n ∧ n ≤ 4 ∧ 0 ≤ at' ∧ at' + n ≤ b.length := by
  unfold ruE at h
  split at h
  · cases h
  · split at h
    · cases h
    · omega
theorem read28_next {b : List UInt8} {at' : Int} (h : (read28 b at').err = 0) : 0 ≤ at' ∧ at' + 2 ≤ (read28 b at').next ∧ (read28 b at').next ≤ b.length := by
  unfold read28 at h ⊢
  split
  · rename_i h1; rw [if_pos h1] at h; cases h
  · rename_i h1; rw [if_neg h1] at h
    split
    · rename_i h2; rw [if_pos h2] at h; exact absurd h h2
    · rename_i h2; rw [if_neg h2] at h
      have h2' := ruE_zero (by simpa using h2)
      split
      · rename_i h3; rw [if_pos h3] at h; cases h
      · rename_i h3; rw [if_neg h3] at h
        split
        · simp only; omega
        · rename_i h4; rw [if_neg h4] at h
          split
          · rename_i h5; rw [if_pos h5] at h; exact absurd h h5
          · rename_i h5; rw [if_neg h5] at h
            split
            · rename_i h6; rw [if_pos h6] at h; cases h
            · rename_i h6; rw [if_neg h6] at h
              split
              · rename_i h7; rw [if_pos h7] at h; cases h
              · simp only; omega
/-- a segment as it lies in memory: its code, its payload's value and its payload -/
structure SegV where
  code : Int
  a : Option Addr
  n : Nat
  c : Nat
  pay : List UInt8
def SegV.v (s : SegV) : Value := .slice s.a s.n s.c
def encS (s : SegV) : List Value := [.int .i64 s.code, s.v]
def SegV.p (s : SegV) : Int × List UInt8 := (s.code, s.pay)
/-- segments: they lie so in memory, their payloads can be read -/
def Segs (m0 m : Mem) (l : List SegV) : Prop := ∀ s ∈ l, Own enc8 1 5 m0 m s.v s.pay
theorem Segs.le {m0 m m' : Mem} {l : List SegV} (h : Segs m0 m l) (hl : m.le m') : Segs m0 m' l := fun s hs => (h s hs).le hl
def stopB (c : Int) : Bool := c == 65456 || c == 65458 || c == 65455
def all28 : Nat → List UInt8 → Int → List (Int × List UInt8) → List (Int × List UInt8) × Int × Int
  | 0, _, _, _ => ([], 0, 0)
  | k + 1, b, at', acc =>
    if ruE b at' 2 = 0 ∧ stopB (ruV b at' 2) = true then (acc, at', 0) else
    if (read28 b at').err ≠ 0 then ([], 0, (read28 b at').err) else all28 k b (read28 b at').next (acc ++ [((read28 b at').code, (read28 b at').pay)])
def allS (b : List UInt8) (at' : Int) : List (Int × List UInt8) × Int × Int := all28 (b.length + 1) b at' []
theorem all28_ok (m : Mem) (v : Value) (b : List UInt8) (at0 : Int) (hb : Sl enc8 1 m v b) (hbig : b.length ≤ 1099511627776)
    (Q : Ending → Mem → Prop) (hQ : ∀ vl m' l, m.le m' → Sl encS 2 m' vl l → Segs m m' l → l.map SegV.p = (allS b at0).1 → Q (.returned (.tuple #[vl, .int .i64 (allS b at0).2.1, .int .i64 (allS b at0).2.2])) m') :
    CC Tryz.prog 15 [v, .int .i64 at0] m Q := by
  have hlen := hb.len
  refine cc_enter Tryz.func15 Tryz.ntmps15 rfl (by kernel_rfl) (by simp) ?_
  simp -implicitDefEqProofs [go_sem, hlen]
  refine loop_rule (fun x : Int × List SegV × Mem × Value × Nat => ⟨[(0, .val v), (1, .val (.int .i64 x.1)), (4, .val x.2.2.2.1)], [], x.2.2.1⟩)
    (fun x => m.le x.2.2.1 ∧ Own encS 2 55 m x.2.2.1 x.2.2.2.1 x.2.1 ∧ Segs m x.2.2.1 x.2.1 ∧ all28 x.2.2.2.2 b x.1 (x.2.1.map SegV.p) = allS b at0 ∧ (b.length : Int) - x.1 < x.2.2.2.2 ∧ 0 < x.2.2.2.2 ∧ (x.2.1 = [] ∨ (x.2.1.length : Int) ≤ x.1 ∧ x.1 ≤ b.length))
    (fun x => x.2.2.2.2) (at0, [], m, .slice none 0 0, if at0 < 0 then (b.length + 1 + (-at0).toNat) else b.length + 1) ⟨Mem.le.refl _, Own.nil, fun s hs => (by cases hs), ?_, ?_, ?_, .inl rfl⟩
    (St.le_mk (by simp [go_sem]) (by simp [go_sem]) (by simp [go_sem]) (Mem.le.refl _)) (fun ⟨at', acc, mi, vl, k⟩ ⟨hmi, hown, hseg, hall, hk, hk0, hacc⟩ => ?_)
  · simp only
    split
    · rename_i hneg
      have : (read28 b at0).err = 2 := by rw [read28, if_pos (.inl hneg)]
      have hr : ruE b at0 2 = 2 := by rw [ruE, if_pos (by omega)]
      have hs : ∀ k, all28 (k + 1) b at0 [] = ([], 0, 2) := fun k => by rw [all28, if_neg (by rw [hr]; omega), if_pos (by rw [this]; decide), this]
      rw [allS, hs, show b.length + 1 + (-at0).toNat = (b.length + (-at0).toNat) + 1 by omega]; exact hs _
    · rfl
  · simp only; split <;> omega
  · simp only; split <;> omega
  simp only at hmi hown hseg hall hk hk0 hacc
  obtain ⟨k, rfl⟩ : ∃ j, k = j + 1 := ⟨k - 1, by omega⟩
  rw [all28] at hall
  simp -implicitDefEqProofs [go_sem]
  refine read28_ok mi v b at' (hb.le hmi) hbig _ (fun vs m1 hle1 hsl => ⟨_, rfl, ?_⟩)
  obtain ⟨va, vn, vc, rfl, hvn⟩ := hsl.shape3
  simp -implicitDefEqProofs [go_sem]
  refine wpCall_at (readUint_ok m1 v b at' 2 ((hb.le hmi).le hle1)) ?_
  simp -implicitDefEqProofs [go_sem]
  refine ⟨by omega, by omega, ?_⟩
  refine wpIf_mk (fun h1 => ?_) (fun h1 => ?_)
  · simp at h1
    simp -implicitDefEqProofs [go_sem]
    rw [if_pos ⟨h1.1, by simp [stopB]; simpa [or_assoc] using h1.2⟩] at hall
    have := hQ vl m1 acc (hmi.trans hle1) ((hown.le hle1).sl (fun _ => rfl)) (hseg.le hle1) (by rw [← hall])
    rwa [← hall] at this
  · simp at h1
    rw [if_neg (by rintro ⟨e1, e2⟩; simp [stopB] at e2; have := h1 e1; omega)] at hall
    simp -implicitDefEqProofs [go_sem]
    refine wpIf_mk (fun h2 => ?_) (fun h2 => ?_)
    · simp at h2
      rw [if_pos h2] at hall
      simp -implicitDefEqProofs [go_sem]
      have := hQ (.slice none 0 0) m1 [] (hmi.trans hle1) Sl.nil (fun s hs => by cases hs) (by rw [← hall]; rfl)
      rwa [← hall] at this
    · simp at h2
      rw [if_neg (by simpa using h2)] at hall
      obtain ⟨n1, n2, n3⟩ := read28_next h2
      simp -implicitDefEqProofs [go_sem]
      have hal : (acc.length : Int) ≤ at' := by
        rcases hacc with rfl | h
        · simpa using n1
        · omega
      refine sem_append (enc := encS) (sz := 2) (e := 55) (T := 44) (m0 := m) (l := acc) (l2 := [⟨(read28 b at').code, va, vn, vc, (read28 b at').pay⟩]) rfl rfl tb_elem44 tb_zero55 rfl (by omega) rfl (hmi.trans hle1) (hown.le hle1) (.inl ⟨1, 55, rfl, rfl⟩) (fun _ => rfl)
        (by simp [encS, SegV.v, Value.oneCell']) ?_ ?_ (fun v' m' k1 k2 k3 k4 => ?_)
      · simp [maxLen]; omega
      · simp; omega
      · simp -implicitDefEqProofs [go_sem]
        refine roundK_normal ((read28 b at').next, acc ++ [⟨(read28 b at').code, va, vn, vc, (read28 b at').pay⟩], m', v', k) ⟨k1, k2, fun s hs => ?_, ?_, ?_, ?_, .inr ⟨?_, n3⟩⟩ (St.le_mk (by simp [go_sem]) (by simp [go_sem]) (by simp [go_sem]) (Mem.le.refl _)) (by simp only; omega)
        · rcases List.mem_append.1 hs with h | h
          · have hq := (hseg s h).le hle1
            exact hq.grew k3 (hq.ne (hown.le hle1) (by decide))
          · simp at h; subst h
            have hq := hsl.base hmi
            exact hq.grew k3 (hq.ne (hown.le hle1) (by decide))
        · rw [← hall]; simp [SegV.p]
        · simp only; omega
        · simp only; omega
        · simp; omega
end Go.Proofs.YtcidapidlgdacaaGreat
