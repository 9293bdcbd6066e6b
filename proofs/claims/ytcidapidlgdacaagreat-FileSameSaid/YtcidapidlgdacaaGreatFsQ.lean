import Derived.Test.YtcidapidlgdacaaGreatFsP
set_option linter.unusedVariables false
set_option linter.unusedSimpArgs false
namespace Go.Proofs.YtcidapidlgdacaaGreat
open Go.FL
set_option maxRecDepth 10000
def framedE (c : Int) (len : Nat) (code n : Int) : Int := if c ≠ code then 11 else if (len : Int) < n then 7 else if n < (len : Int) then 9 else 0
theorem framed_ok (m : Mem) (c : Int) (va : Option Addr) (vn vc : Nat) (code n : Int) : PureAt Tryz.prog 33 [.agg #[.int .i64 c, .slice va vn vc], .int .i64 code, .int .i64 n] m (.int .i64 (framedE c vn code n)) := by
  refine cc_enter Tryz.func33 Tryz.ntmps33 rfl (by kernel_rfl) (by simp) ?_
  simp -implicitDefEqProofs [go_sem]
  refine wpIf_mk (fun h1 => ?_) (fun h1 => ?_)
  · simp at h1
    simp -implicitDefEqProofs [go_sem]
    rw [framedE, if_pos h1]
  · simp at h1
    simp -implicitDefEqProofs [go_sem]
    refine wpIf_mk (fun h2 => ?_) (fun h2 => ?_)
    · simp at h2
      simp -implicitDefEqProofs [go_sem]
      rw [framedE, if_neg (by simpa using h1), if_pos h2]
    · simp at h2
      simp -implicitDefEqProofs [go_sem]
      refine wpIf_mk (fun h3 => ?_) (fun h3 => ?_)
      · simp at h3
        simp -implicitDefEqProofs [go_sem]
        rw [framedE, if_neg (by simpa using h1), if_neg (by omega), if_pos h3]
      · simp at h3
        simp -implicitDefEqProofs [go_sem]
        rw [framedE, if_neg (by simpa using h1), if_neg (by omega), if_neg (by omega)]
def getN (b : List UInt8) (at' n : Int) : Int := beN ((b.drop at'.toNat).take n.toNat)
theorem getN_ge (b : List UInt8) (at' n : Int) : 0 ≤ getN b at' n := beN_ge _
theorem getN_lt (b : List UInt8) (at' n : Int) (h : n ≤ 2) : getN b at' n < 65536 := by
  refine Int.lt_of_lt_of_le (beN_lt _) ?_
  have : ((b.drop at'.toNat).take n.toNat).length ≤ 2 := by simp; omega
  have h2 : (256 : Int) ^ ((b.drop at'.toNat).take n.toNat).length ≤ 256 ^ 2 := by exact_mod_cast Nat.pow_le_pow_right (n := 256) (by omega) this
  omega
theorem get29_ok (m : Mem) (v : Value) (b : List UInt8) (at' n : Int) (hb : Sl enc8 1 m v b) (h0 : 0 ≤ at') (hn : n ≤ 4) (hl : at' + n ≤ b.length) (hbig : b.length ≤ 1099511627776) : PureAt Tryz.prog 34 [v, .int .i64 at', .int .i64 n] m (.int .i64 (getN b at' n)) := by
  have hlen := hb.len
  refine cc_enter Tryz.func34 Tryz.ntmps34 rfl (by kernel_rfl) (by simp) ?_
  simp -implicitDefEqProofs [go_sem]
  refine loop_rule (fun x : Nat × Int => ⟨[(8, .val (.int .i64 x.1)), (7, .val (.int .i64 x.2)), (0, .val v), (1, .val (.int .i64 at')), (2, .val (.int .i64 n))], [], m⟩)
    (fun x => (x.1 : Int) ≤ max n 0 ∧ x.2 = beN ((b.drop at'.toNat).take x.1)) (fun x => n.toNat - x.1) (0, 0) ⟨by simp only; omega, by simp [beN]⟩ (St.le_mk (by simp [go_sem]) (by simp [go_sem]) (by simp [go_sem]) (Mem.le.refl _)) (fun ⟨k, q⟩ ⟨hk, hq⟩ => ?_)
  simp only at hk hq
  simp -implicitDefEqProofs [go_sem]
  refine wpIf_mk (fun h3 => ?_) (fun h3 => ?_)
  · simp at h3
    have hlt : (at' + k).toNat < b.length := by omega
    obtain ⟨x, hx⟩ : ∃ x, b[(at' + k).toNat]? = some x := ⟨b[(at' + k).toNat], by simp [hlt]⟩
    have hrd := hb.rd_all hx rfl
    have had := hb.adr hx 0
    have e2 : IntKind.i64.wrap (at' + k) = at' + k := wrapI (by omega) (by omega)
    have hxl := x.toNat_lt
    have hq0 := beN_ge ((b.drop at'.toNat).take k)
    have hq1 := beN_lt4 (l := (b.drop at'.toNat).take k) (by simp; omega)
    have e3 : IntKind.i64.wrap ((x.toNat : Nat) : Int) = x.toNat := wrapI (by omega) (by omega)
    have e4 : IntKind.i64.wrap (256 * q) = 256 * q := wrapI (by omega) (by omega)
    have e5 : IntKind.i64.wrap (256 * q + x.toNat) = 256 * q + x.toNat := wrapI (by omega) (by omega)
    have e6 : IntKind.i64.wrap ((k : Int) + 1) = k + 1 := wrapI (by omega) (by omega)
    simp -implicitDefEqProofs [go_sem, e2, hlen, hb.plain, hrd, had, enc8, e3, e4, e5, e6, show (0 : Int) ≤ at' + k by omega, show at' + k < (b.length : Int) by omega]
    refine roundK_normal (k + 1, 256 * q + x.toNat) ⟨by simp only; omega, ?_⟩ (St.le_mk (by simp [go_sem]) (by simp [go_sem]) (by simp [go_sem]) (Mem.le.refl _)) (by simp only; omega)
    have hx' : (b.drop at'.toNat)[k]? = some x := by rw [List.getElem?_drop, ← hx]; congr 1; omega
    simp only
    rw [List.take_add_one, hx', hq]
    have := beN_snoc (List.take k (List.drop at'.toNat b)) x
    simp only [Option.toList_some]; omega
  · simp at h3
    simp -implicitDefEqProofs [go_sem]
    have : n.toNat = k := by omega
    rw [getN, this, hq]
end Go.Proofs.YtcidapidlgdacaaGreat
