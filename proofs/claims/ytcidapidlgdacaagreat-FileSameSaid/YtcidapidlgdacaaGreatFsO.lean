import Derived.Test.YtcidapidlgdacaaGreatFsN
import Derived.Test.YtcidapidlgdacaaGreatFlS
set_option linter.unusedVariables false
set_option linter.unusedSimpArgs false
namespace Go.Proofs.YtcidapidlgdacaaGreat
open Go.FL
set_option maxRecDepth 10000
@[go_sem] theorem tb_zero5 : tzero Tryz.prog 5 = some [.int .u8 0] := by kernel_rfl
/-- a segment that was read, where the next one begins, and the error -/
structure RdSeg where
  code : Int
  pay : List UInt8
  next : Int
  err : Int
def read28 (b : List UInt8) (at' : Int) : RdSeg :=
  if at' < 0 ∨ (b.length : Int) < at' then ⟨0, [], 0, 2⟩ else
  if ruE b at' 2 ≠ 0 then ⟨0, [], 0, ruE b at' 2⟩ else
  if knownB (ruV b at' 2) = false then ⟨0, [], 0, 11⟩ else
  if bareB (ruV b at' 2) = true then ⟨ruV b at' 2, [], at' + 2, 0⟩ else
  if ruE b (at' + 2) 2 ≠ 0 then ⟨0, [], 0, ruE b (at' + 2) 2⟩ else
  if ruV b (at' + 2) 2 < 2 then ⟨0, [], 0, 4⟩ else
  if (b.length : Int) - at' - 2 < ruV b (at' + 2) 2 then ⟨0, [], 0, 7⟩ else
  ⟨ruV b at' 2, (b.drop (at' + 4).toNat).take ((at' + 2 + ruV b (at' + 2) 2).toNat - (at' + 4).toNat), at' + 2 + ruV b (at' + 2) 2, 0⟩
theorem ruV_ge (b : List UInt8) (at' n : Int) : 0 ≤ ruV b at' n := by
  unfold ruV; split
  · exact Int.le_refl _
  · split
    · exact Int.le_refl _
    · exact beN_ge _
theorem ruV2_lt (b : List UInt8) (at' : Int) : ruV b at' 2 < 65536 := by
  unfold ruV; split
  · omega
  · split
    · omega
    · refine Int.lt_of_lt_of_le (beN_lt _) ?_
      have : ((b.drop at'.toNat).take (2 : Int).toNat).length ≤ 2 := by simp; omega
      have h2 : (256 : Int) ^ ((b.drop at'.toNat).take (2 : Int).toNat).length ≤ 256 ^ 2 := by exact_mod_cast Nat.pow_le_pow_right (n := 256) (by omega) this
      omega
theorem read28_ok (m : Mem) (v : Value) (b : List UInt8) (at' : Int) (hb : Sl enc8 1 m v b) (hbig : b.length ≤ 1099511627776)
    (Q : Ending → Mem → Prop) (hQ : ∀ vs m', m.le m' → Own enc8 1 5 m m' vs (read28 b at').pay → Q (.returned (.tuple #[.agg #[.int .i64 (read28 b at').code, vs], .int .i64 (read28 b at').next, .int .i64 (read28 b at').err])) m') :
    CC Tryz.prog 31 [v, .int .i64 at'] m Q := by
  have hlen := hb.len
  refine cc_enter Tryz.func31 Tryz.ntmps31 rfl (by kernel_rfl) (by simp) ?_
  simp -implicitDefEqProofs [go_sem, hlen]
  refine wpIf_mk (fun h1 => ?_) (fun h1 => ?_)
  · simp at h1
    simp -implicitDefEqProofs [go_sem]
    have := hQ (.slice none 0 0) m (Mem.le.refl _)
    rw [read28, if_pos h1] at this
    exact this Own.nil
  · simp at h1
    have n1 : ¬ (at' < 0 ∨ (b.length : Int) < at') := by omega
    simp -implicitDefEqProofs [go_sem]
    refine wpCall_at (readUint_ok m v b at' 2 hb) ?_
    simp -implicitDefEqProofs [go_sem]
    refine wpIf_mk (fun h2 => ?_) (fun h2 => ?_)
    · simp at h2
      simp -implicitDefEqProofs [go_sem]
      have := hQ (.slice none 0 0) m (Mem.le.refl _)
      rw [read28, if_neg n1, if_pos h2] at this
      exact this Own.nil
    · simp at h2
      simp -implicitDefEqProofs [go_sem]
      refine wpCall_pure (known_ok _) ?_
      simp -implicitDefEqProofs [go_sem]
      refine wpIf_mk (fun h3 => ?_) (fun h3 => ?_)
      · simp at h3
        simp -implicitDefEqProofs [go_sem]
        have := hQ (.slice none 0 0) m (Mem.le.refl _)
        rw [read28, if_neg n1, if_neg (by simpa using h2), if_pos h3] at this
        exact this Own.nil
      · simp at h3
        have n3 : ¬ (knownB (ruV b at' 2) = false) := by simp [h3]
        have e1 : IntKind.i64.wrap (at' + 2) = at' + 2 := wrapI (by omega) (by omega)
        simp -implicitDefEqProofs [go_sem]
        refine wpCall_pure (bare_ok _) ?_
        simp -implicitDefEqProofs [go_sem]
        refine wpIf_mk (fun h4 => ?_) (fun h4 => ?_)
        · simp -implicitDefEqProofs [go_sem, e1]
          have := hQ (.slice none 0 0) m (Mem.le.refl _)
          rw [read28, if_neg n1, if_neg (by simpa using h2), if_neg n3, if_pos h4] at this
          exact this Own.nil
        · simp -implicitDefEqProofs [go_sem, e1]
          refine wpCall_at (readUint_ok m v b (at' + 2) 2 hb) ?_
          simp -implicitDefEqProofs [go_sem]
          refine wpIf_mk (fun h5 => ?_) (fun h5 => ?_)
          · simp at h5
            simp -implicitDefEqProofs [go_sem]
            have := hQ (.slice none 0 0) m (Mem.le.refl _)
            rw [read28, if_neg n1, if_neg (by simpa using h2), if_neg n3, if_neg (by simp [h4]), if_pos h5] at this
            exact this Own.nil
          · simp at h5
            simp -implicitDefEqProofs [go_sem]
            refine wpIf_mk (fun h6 => ?_) (fun h6 => ?_)
            · simp at h6
              simp -implicitDefEqProofs [go_sem]
              have := hQ (.slice none 0 0) m (Mem.le.refl _)
              rw [read28, if_neg n1, if_neg (by simpa using h2), if_neg n3, if_neg (by simp [h4]), if_neg (by simpa using h5), if_pos h6] at this
              exact this Own.nil
            · simp at h6
              have e2 : IntKind.i64.wrap ((b.length : Int) - at') = (b.length : Int) - at' := wrapI (by omega) (by omega)
              have e3 : IntKind.i64.wrap ((b.length : Int) - at' - 2) = (b.length : Int) - at' - 2 := wrapI (by omega) (by omega)
              simp -implicitDefEqProofs [go_sem, hlen, e2, e3]
              refine wpIf_mk (fun h7 => ?_) (fun h7 => ?_)
              · simp at h7
                simp -implicitDefEqProofs [go_sem]
                have := hQ (.slice none 0 0) m (Mem.le.refl _)
                rw [read28, if_neg n1, if_neg (by simpa using h2), if_neg n3, if_neg (by simp [h4]), if_neg (by simpa using h5), if_neg (by omega), if_pos h7] at this
                exact this Own.nil
              · simp at h7
                have v2 := ruV2_lt b (at' + 2)
                have e4 : IntKind.i64.wrap (at' + 4) = at' + 4 := wrapI (by omega) (by omega)
                have e5 : IntKind.i64.wrap (at' + 2 + ruV b (at' + 2) 2) = at' + 2 + ruV b (at' + 2) 2 := wrapI (by omega) (by omega)
                obtain ⟨cc, hcap, hcap'⟩ := hb.cap
                simp -implicitDefEqProofs [go_sem, hlen, e1, e4, e5, hcap]
                refine ⟨⟨by omega, by omega, by omega⟩, ?_⟩
                have hsub := hb.sub (lo := at' + 4) (hi := at' + 2 + ruV b (at' + 2) 2) (by omega) (by omega) (by omega)
                refine sem_append_new (enc := enc8) (sz := 1) (e := 5) 1 rfl rfl tb_elem28 tb_zero5 rfl (by omega) rfl rfl rfl hsub (fun _ => rfl) (by simp [enc8, Value.oneCell']) (by simp [maxLen]; omega) (by simp; omega) (fun bk v' m' k1 k2 => ?_)
                obtain ⟨va, vn, vc, rfl, hvn⟩ := k2.shape3
                simp -implicitDefEqProofs [go_sem, e1, e5]
                have := hQ (.slice va vn vc) m' k1
                rw [read28, if_neg n1, if_neg (by simpa using h2), if_neg n3, if_neg (by simp [h4]), if_neg (by simpa using h5), if_neg (by omega), if_neg (by omega)] at this
                exact this k2
end Go.Proofs.YtcidapidlgdacaaGreat
