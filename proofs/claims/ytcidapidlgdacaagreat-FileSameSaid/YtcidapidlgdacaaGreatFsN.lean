import Derived.Test.YtcidapidlgdacaaGreatFsM
set_option linter.unusedVariables false
set_option linter.unusedSimpArgs false
namespace Go.Proofs.YtcidapidlgdacaaGreat
open Go.FL
set_option maxRecDepth 10000
def knownB (c : Int) : Bool := (decide (65440 ≤ c) && decide (c ≤ 65445)) || c == 65455 || (decide (65456 ≤ c) && decide (c ≤ 65458))
def pickB (c a b : Bool) : Bool := bif c then a else b
theorem known_ok (c : Int) : Pure Tryz.prog 61 [.int .i64 c] (.bool (knownB c)) := by
  intro m
  refine cc_enter Tryz.func61 Tryz.ntmps61 rfl (by kernel_rfl) (by simp) ?_
  simp -implicitDefEqProofs [go_sem]
  exact ⟨by omega, by omega, by omega, rfl⟩
def bareB (c : Int) : Bool := c == 65440 || c == 65458 || c == 65455
theorem bare_ok (c : Int) : Pure Tryz.prog 62 [.int .i64 c] (.bool (bareB c)) := by
  intro m
  refine cc_enter Tryz.func62 Tryz.ntmps62 rfl (by kernel_rfl) (by simp) ?_
  simp -implicitDefEqProofs [go_sem, bareB]
/-- the number in bytes, the highest one first -/
def beN (l : List UInt8) : Int := l.foldl (fun v x => v * 256 + (x.toNat : Int)) 0
theorem beN_snoc (l : List UInt8) (x : UInt8) : beN (l ++ [x]) = beN l * 256 + (x.toNat : Int) := by simp [beN]
theorem foldl_ge (l : List UInt8) : ∀ a : Int, 0 ≤ a → 0 ≤ l.foldl (fun v x => v * 256 + (x.toNat : Int)) a := by
  induction l with
  | nil => intro a h; exact h
  | cons x r ih => intro a h; exact ih _ (by simp only; omega)
theorem beN_ge (l : List UInt8) : 0 ≤ beN l := foldl_ge l 0 (by omega)
theorem foldl_lt (l : List UInt8) : ∀ a : Int, 0 ≤ a → l.foldl (fun v x => v * 256 + (x.toNat : Int)) a < (a + 1) * 256 ^ l.length := by
  induction l with
  | nil => intro a h; simp; omega
  | cons x r ih =>
    intro a h
    have := x.toNat_lt
    have h1 := ih (a * 256 + (x.toNat : Int)) (by omega)
    have h2 : (a * 256 + (x.toNat : Int) + 1) * 256 ^ r.length ≤ ((a + 1) * 256) * 256 ^ r.length := Int.mul_le_mul_of_nonneg_right (by omega) (Int.le_of_lt (Int.pow_pos (by omega)))
    have h3 : ((a + 1) * 256) * 256 ^ r.length = (a + 1) * 256 ^ (r.length + 1) := by rw [Int.pow_succ, Int.mul_assoc, Int.mul_comm 256]
    simp only [List.foldl_cons, List.length_cons]
    omega
theorem beN_lt (l : List UInt8) : beN l < 256 ^ l.length := by have := foldl_lt l 0 (by omega); simpa [beN] using this
theorem beN_lt4 {l : List UInt8} (h : l.length ≤ 4) : beN l < 4294967296 := by
  have h1 := beN_lt l
  have h2 : (256 : Int) ^ l.length ≤ 256 ^ 4 := by exact_mod_cast Nat.pow_le_pow_right (n := 256) (by omega) h
  omega
theorem or_add {v x : Int} (h0 : 0 ≤ v) (h1 : v < 18014398509481984) (h2 : 0 ≤ x) (h3 : x < 256) :
    IntKind.i64.wrap ((BitVec.ofInt 64 (v * 256) ||| BitVec.ofInt 64 x).toNat : Int) = v * 256 + x := by
  obtain ⟨a, rfl⟩ := Int.eq_ofNat_of_zero_le h0
  obtain ⟨b, rfl⟩ := Int.eq_ofNat_of_zero_le h2
  have e1 : (BitVec.ofInt 64 ((a : Int) * 256)).toNat = a * 256 := by
    rw [show ((a : Int) * 256) = ((a * 256 : Nat) : Int) by omega, BitVec.ofInt_natCast, BitVec.toNat_ofNat, Nat.mod_eq_of_lt (by omega)]
  have e2 : (BitVec.ofInt 64 (b : Int)).toNat = b := by rw [BitVec.ofInt_natCast, BitVec.toNat_ofNat, Nat.mod_eq_of_lt (by omega)]
  rw [BitVec.toNat_or, e1, e2]
  have e3 : a * 256 ||| b = a * 256 + b := by
    have := Nat.shiftLeft_add_eq_or_of_lt (i := 8) (b := b) (by omega) a
    rw [Nat.shiftLeft_eq] at this; exact this.symm
  rw [e3]
  exact (wrapI (by omega) (by omega)).trans (by omega)
def ruV (b : List UInt8) (at' n : Int) : Int := if n < 1 ∨ 4 < n ∨ at' < 0 ∨ (b.length : Int) < at' then 0 else if (b.length : Int) - at' < n then 0 else beN ((b.drop at'.toNat).take n.toNat)
def ruE (b : List UInt8) (at' n : Int) : Int := if n < 1 ∨ 4 < n ∨ at' < 0 ∨ (b.length : Int) < at' then 2 else if (b.length : Int) - at' < n then 7 else 0
theorem readUint_ok (m : Mem) (v : Value) (b : List UInt8) (at' n : Int) (hb : Sl enc8 1 m v b) : PureAt Tryz.prog 32 [v, .int .i64 at', .int .i64 n] m (.tuple #[.int .i64 (ruV b at' n), .int .i64 (ruE b at' n)]) := by
  have hlen := hb.len
  have hmax := hb.max
  refine cc_enter Tryz.func32 Tryz.ntmps32 rfl (by kernel_rfl) (by simp) ?_
  simp -implicitDefEqProofs [go_sem, hlen]
  refine wpIf_mk (fun h1 => ?_) (fun h1 => ?_)
  · simp at h1
    simp -implicitDefEqProofs [go_sem]
    have hn : n < 1 ∨ 4 < n ∨ at' < 0 ∨ (b.length : Int) < at' := by omega
    rw [ruV, ruE, if_pos hn, if_pos hn]; exact ⟨rfl, rfl⟩
  · simp at h1
    simp only [maxLen] at hmax
    have e1 : IntKind.i64.wrap ((b.length : Int) - at') = (b.length : Int) - at' := wrapI (by omega) (by omega)
    simp -implicitDefEqProofs [go_sem, e1, hlen]
    have hn : ¬ (n < 1 ∨ 4 < n ∨ at' < 0 ∨ (b.length : Int) < at') := by omega
    refine wpIf_mk (fun h2 => ?_) (fun h2 => ?_)
    · simp at h2
      simp -implicitDefEqProofs [go_sem]
      rw [ruV, ruE, if_neg hn, if_neg hn, if_pos h2, if_pos h2]; exact ⟨rfl, rfl⟩
    · simp at h2
      simp -implicitDefEqProofs [go_sem]
      refine loop_rule (fun x : Nat × Int => ⟨[(9, .val (.int .i64 x.1)), (8, .val (.int .i64 x.2)), (0, .val v), (1, .val (.int .i64 at')), (2, .val (.int .i64 n))], [], m⟩)
        (fun x => (x.1 : Int) ≤ n ∧ x.2 = beN ((b.drop at'.toNat).take x.1)) (fun x => n.toNat - x.1) (0, 0) ⟨by simp only; omega, by simp [beN]⟩ (St.le_mk (by simp [go_sem]) (by simp [go_sem]) (by simp [go_sem]) (Mem.le.refl _)) (fun ⟨k, q⟩ ⟨hk, hq⟩ => ?_)
      simp only at hk hq
      simp -implicitDefEqProofs [go_sem]
      refine wpIf_mk (fun h3 => ?_) (fun h3 => ?_)
      · simp at h3
        have hlt : (at' + k).toNat < b.length := by omega
        obtain ⟨x, hx⟩ : ∃ x, b[(at' + k).toNat]? = some x := ⟨b[(at' + k).toNat], by simp [hlt]⟩
        have hrd := hb.rd_all hx rfl
        have had := hb.adr hx 0
        have e2 : IntKind.i64.wrap (at' + k) = at' + k := wrapI (by omega) (by omega)
        have hxl := x.toNat_lt
        have hq0 := beN_ge ((b.drop at'.toNat).take k)
        have hq1 := beN_lt4 (l := (b.drop at'.toNat).take k) (by simp; omega)
        have e3 : IntKind.i64.wrap ((x.toNat : Nat) : Int) = x.toNat := wrapI (by omega) (by omega)
        have e4 : IntKind.i64.wrap (q * 256) = q * 256 := wrapI (by omega) (by omega)
        have e5 := or_add (v := q) (x := x.toNat) (by omega) (by omega) (by omega) (by omega)
        rw [BitVec.ofInt_natCast] at e5
        have e6 : IntKind.i64.wrap ((k : Int) + 1) = k + 1 := wrapI (by omega) (by omega)
        simp -implicitDefEqProofs [go_sem, e2, hlen, hb.plain, hrd, had, enc8, e3, e4, e5, e6, show (0 : Int) ≤ at' + k by omega, show at' + k < (b.length : Int) by omega]
        refine roundK_normal (k + 1, q * 256 + x.toNat) ⟨by simp only; omega, ?_⟩ (St.le_mk (by simp [go_sem]; exact e5) (by simp [go_sem]) (by simp [go_sem]) (Mem.le.refl _)) (by simp only; omega)
        have hx' : (b.drop at'.toNat)[k]? = some x := by rw [List.getElem?_drop, ← hx]; congr 1; omega
        simp only
        rw [List.take_add_one, hx', hq]; exact (beN_snoc _ _).symm
      · simp at h3
        simp -implicitDefEqProofs [go_sem]
        have hn2 : ¬ ((b.length : Int) - at' < n) := by omega
        rw [ruV, ruE, if_neg hn, if_neg hn, if_neg hn2, if_neg hn2]
        have : n.toNat = k := by omega
        rw [this]; exact ⟨hq, rfl⟩
end Go.Proofs.YtcidapidlgdacaaGreat
