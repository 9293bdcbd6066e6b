import Derived.Test.YtcidapidlgdacaaGreatFsV
set_option linter.unusedVariables false
set_option linter.unusedSimpArgs false
namespace Go.Proofs.YtcidapidlgdacaaGreat
open Go.FL
set_option maxRecDepth 10000
theorem take_eq_of {α : Type} {a b : List α} (hl : a.length = b.length) {i : Nat} (hi : a.length ≤ i) (h : a.take i = b.take i) : a = b := by
  rwa [List.take_of_length_le hi, List.take_of_length_le (by omega)] at h
theorem take_eq_succ {α : Type} {a b : List α} {i : Nat} {x y : α} (hx : a[i]? = some x) (hy : b[i]? = some y) (h : a.take i = b.take i) (he : x = y) : a.take (i + 1) = b.take (i + 1) := by
  rw [List.take_add_one, List.take_add_one, hx, hy, h, he]
theorem ne_of_at {α : Type} {a b : List α} {i : Nat} {x y : α} (hx : a[i]? = some x) (hy : b[i]? = some y) (he : x ≠ y) : a ≠ b := by
  intro h; subst h; rw [hx] at hy; cases hy; exact he rfl
theorem sameBytes_ok (m : Mem) (va vb : Value) (a b : List UInt8) (ha : Sl enc8 1 m va a) (hb : Sl enc8 1 m vb b) : PureAt Tryz.prog 14 [va, vb] m (.bool ((⟨a.toArray⟩ : ByteArray).toList == (⟨b.toArray⟩ : ByteArray).toList)) := by
  refine cc_enter Tryz.func14 Tryz.ntmps14 rfl (by kernel_rfl) (by simp) ?_
  simp -implicitDefEqProofs [go_sem, ha.str, hb.str]
theorem sameInts_ok (m : Mem) (va vb : Value) (a b : List Int) (ha : Sl encI 1 m va a) (hb : Sl encI 1 m vb b) : PureAt Tryz.prog 30 [va, vb] m (.bool (decide (a = b))) := by
  have hla := ha.len
  have hlb := hb.len
  refine cc_enter Tryz.func30 Tryz.ntmps30 rfl (by kernel_rfl) (by simp) ?_
  simp -implicitDefEqProofs [go_sem, hla, hlb]
  refine wpIf_mk (fun h1 => ?_) (fun h1 => ?_)
  · simp at h1
    simp -implicitDefEqProofs [go_sem]
    intro h; subst h; exact h1 rfl
  · simp at h1
    have h1' : a.length = b.length := by omega
    simp -implicitDefEqProofs [go_sem]
    refine loop_rule (fun i : Nat => ⟨[(5, .val (.int .i64 i)), (0, .val va), (1, .val vb)], [], m⟩) (fun i => i ≤ a.length ∧ a.take i = b.take i) (fun i => a.length - i) 0 ⟨by omega, by simp⟩ (St.le_mk (by simp [go_sem]) (by simp [go_sem]) (by simp [go_sem]) (Mem.le.refl _)) (fun i ⟨hi, he⟩ => ?_)
    simp -implicitDefEqProofs [go_sem, hla]
    refine wpIf_mk (fun h2 => ?_) (fun h2 => ?_)
    · simp at h2
      obtain ⟨x, hx⟩ := ha.get h2
      obtain ⟨y, hy⟩ := hb.get (i := i) (by omega)
      have r1 := ha.rd_all hx rfl; have q1 := ha.adr hx 0
      have r2 := hb.rd_all hy rfl; have q2 := hb.adr hy 0
      simp -implicitDefEqProofs [go_sem]
      refine draw_rule [(0, 0), (1, 0), (2, 0), (3, 0), (4, 0), (5, 0), (6, 0), (7, 0), (8, 0)] (by kernel_rfl) (by simp [go_sem]) ?_
      simp -implicitDefEqProofs [go_sem, hla, hlb, r1, r2, q1, q2, ha.plain, hb.plain, encI, h2, show i < b.length by omega]
      simp only [Int.toNat_natCast] at hx hy
      refine wpIf_mk (fun h3 => ?_) (fun h3 => ?_)
      · simp at h3
        simp -implicitDefEqProofs [go_sem]
        exact ne_of_at hx hy h3
      · simp at h3
        simp -implicitDefEqProofs [go_sem, wrapS h2 ha.max]
        exact roundK_normal (i + 1) ⟨by omega, take_eq_succ hx hy he h3⟩ (St.le_mk (by simp [go_sem]) (by simp [go_sem]) (by simp [go_sem]) (Mem.le.refl _)) (by omega)
    · simp at h2
      simp -implicitDefEqProofs [go_sem]
      exact take_eq_of h1' h2 he
theorem equal_ok (m : Mem) (va vb : Value) (a b : List Int) (ha : Sl encI 1 m va a) (hb : Sl encI 1 m vb b) : PureAt Tryz.prog 27 [va, vb] m (.bool (decide (a = b))) := by
  have hla := ha.len
  have hlb := hb.len
  refine cc_enter Tryz.func27 Tryz.ntmps27 rfl (by kernel_rfl) (by simp) ?_
  simp -implicitDefEqProofs [go_sem, hla, hlb]
  refine wpIf_mk (fun h1 => ?_) (fun h1 => ?_)
  · simp at h1
    simp -implicitDefEqProofs [go_sem]
    intro h; subst h; exact h1 rfl
  · simp at h1
    have h1' : a.length = b.length := by omega
    simp -implicitDefEqProofs [go_sem, hla]
    refine loop_rule (fun i : Nat => ⟨[(13, .val (.int .i64 i)), (12, .val (.int .i64 a.length)), (0, .val va), (1, .val vb)], [], m⟩) (fun i => i ≤ a.length ∧ a.take i = b.take i) (fun i => a.length - i) 0 ⟨by omega, by simp⟩ (St.le_mk (by simp [go_sem]) (by simp [go_sem]) (by simp [go_sem]) (Mem.le.refl _)) (fun i ⟨hi, he⟩ => ?_)
    simp -implicitDefEqProofs [go_sem, hla]
    refine wpIf_mk (fun h2 => ?_) (fun h2 => ?_)
    · simp at h2
      obtain ⟨x, hx⟩ := ha.get h2
      obtain ⟨y, hy⟩ := hb.get (i := i) (by omega)
      have r1 := ha.rd_all hx rfl; have q1 := ha.adr hx 0
      have r2 := hb.rd_all hy rfl; have q2 := hb.adr hy 0
      simp -implicitDefEqProofs [go_sem]
      refine draw_rule [(0, 0), (1, 0), (2, 0), (3, 0), (4, 0), (5, 0), (6, 0), (7, 0), (8, 0)] (by kernel_rfl) (by simp [go_sem]) ?_
      simp -implicitDefEqProofs [go_sem, hla, hlb, r1, r2, q1, q2, ha.plain, hb.plain, encI, h2, show i < b.length by omega]
      simp only [Int.toNat_natCast] at hx hy
      refine wpIf_mk (fun h3 => ?_) (fun h3 => ?_)
      · simp at h3
        simp -implicitDefEqProofs [go_sem]
        exact ne_of_at hx hy h3
      · simp at h3
        simp -implicitDefEqProofs [go_sem, wrapS h2 ha.max]
        exact roundK_normal (i + 1) ⟨by omega, take_eq_succ hx hy he h3⟩ (St.le_mk (by simp [go_sem]) (by simp [go_sem]) (by simp [go_sem]) (Mem.le.refl _)) (by omega)
    · simp at h2
      simp -implicitDefEqProofs [go_sem]
      exact take_eq_of h1' h2 he
theorem eqFn_ok (m : Mem) (va vb : Value) (a b : List Int) (ha : Sl encI 1 m va a) (hb : Sl encI 1 m vb b) : PureAt Tryz.prog 29 [va, vb] m (.bool (decide (a = b))) := by
  refine cc_enter Tryz.func29 Tryz.ntmps29 rfl (by kernel_rfl) (by simp) ?_
  simp -implicitDefEqProofs [go_sem]
  refine wpCall_at (equal_ok m va vb a b ha hb) ?_
  simp -implicitDefEqProofs [go_sem]
/-- numbers as they lie in memory -/
structure IntsV where
  a : Option Addr
  n : Nat
  c : Nat
  l : List Int
def IntsV.v (s : IntsV) : Value := .slice s.a s.n s.c
def encIV (s : IntsV) : List Value := [.slice s.a s.n s.c]
def Rows2 (m : Mem) (l : List IntsV) : Prop := ∀ s ∈ l, Sl encI 1 m (.slice s.a s.n s.c) s.l
theorem mem_at {α : Type} {l : List α} {i : Nat} {x : α} (h : l[i]? = some x) : x ∈ l := List.mem_of_getElem? h
theorem map_at {α β : Type} {f : α → β} {l : List α} {i : Nat} {x : α} (h : l[i]? = some x) : (l.map f)[i]? = some (f x) := by rw [List.getElem?_map, h]; rfl
theorem equalFunc_ok (m : Mem) (va vb : Value) (a b : List IntsV) (ha : Sl encIV 1 m va a) (hb : Sl encIV 1 m vb b) (ra : Rows2 m a) (rb : Rows2 m b) : PureAt Tryz.prog 28 [va, vb, .func (.func 29) #[] #[]] m (.bool (decide (a.map (·.l) = b.map (·.l)))) := by
  have hla := ha.len
  have hlb := hb.len
  refine cc_enter Tryz.func28 Tryz.ntmps28 rfl (by kernel_rfl) (by simp) ?_
  simp -implicitDefEqProofs [go_sem, hla, hlb]
  refine wpIf_mk (fun h1 => ?_) (fun h1 => ?_)
  · simp at h1
    simp -implicitDefEqProofs [go_sem]
    intro h; have := congrArg List.length h; simp at this; omega
  · simp at h1
    have h1' : a.length = b.length := by omega
    simp -implicitDefEqProofs [go_sem, hla]
    refine loop_rule (fun i : Nat => ⟨[(17, .val (.int .i64 i)), (16, .val (.int .i64 a.length)), (15, .val va), (0, .val va), (1, .val vb), (2, .val (.func (.func 29) #[] #[]))], [], m⟩) (fun i => i ≤ a.length ∧ (a.map (·.l)).take i = (b.map (·.l)).take i) (fun i => a.length - i) 0 ⟨by omega, by simp⟩ (St.le_mk (by simp [go_sem]) (by simp [go_sem]) (by simp [go_sem]) (Mem.le.refl _)) (fun i ⟨hi, he⟩ => ?_)
    simp -implicitDefEqProofs [go_sem, hla]
    refine wpIf_mk (fun h2 => ?_) (fun h2 => ?_)
    · simp at h2
      obtain ⟨x, hx⟩ := ha.get h2
      obtain ⟨y, hy⟩ := hb.get (i := i) (by omega)
      have r1 := ha.rd_all hx rfl; have q1 := ha.adr hx 0
      have r2 := hb.rd_all hy rfl; have q2 := hb.adr hy 0
      simp only [Int.toNat_natCast] at hx hy
      simp -implicitDefEqProofs [go_sem, hla, hlb, r1, r2, q1, q2, ha.plain, hb.plain, encIV, h2, show i < b.length by omega]
      refine wpCall_at (eqFn_ok m _ _ x.l y.l (ra x (mem_at hx)) (rb y (mem_at hy))) ?_
      simp -implicitDefEqProofs [go_sem]
      refine wpIf_mk (fun h3 => ?_) (fun h3 => ?_)
      · simp at h3
        simp -implicitDefEqProofs [go_sem]
        exact ne_of_at (map_at hx) (map_at hy) h3
      · simp at h3
        simp -implicitDefEqProofs [go_sem, wrapS h2 ha.max]
        exact roundK_normal (i + 1) ⟨by omega, take_eq_succ (map_at hx) (map_at hy) he h3⟩ (St.le_mk (by simp [go_sem]) (by simp [go_sem]) (by simp [go_sem]) (Mem.le.refl _)) (by omega)
    · simp at h2
      simp -implicitDefEqProofs [go_sem]
      exact take_eq_of (by simpa using h1') (by simpa using h2) he
end Go.Proofs.YtcidapidlgdacaaGreat
