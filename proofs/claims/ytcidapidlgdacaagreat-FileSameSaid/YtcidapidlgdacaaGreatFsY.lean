import Derived.Test.YtcidapidlgdacaaGreatFsW
set_option linter.unusedVariables false
set_option linter.unusedSimpArgs false
namespace Go.Proofs.YtcidapidlgdacaaGreat
open Go.FL
set_option maxRecDepth 10000
def cv (sp : Int) (vr vp : Value) : Value := .agg #[.int .i64 sp, vr, vp]
def sameC (sp : Int) (roles : List Int) (pal : List IntsV) (sp' : Int) (roles' : List Int) (pal' : List IntsV) : Bool :=
  (sp == sp') && decide (roles = roles') && decide (pal.map (·.l) = pal'.map (·.l))
theorem same46_ok (m : Mem) (sp : Int) (vr vp : Value) (roles : List Int) (pal : List IntsV) (sp' : Int) (vr' vp' : Value) (roles' : List Int) (pal' : List IntsV)
    (hr : Sl encI 1 m vr roles) (hp : Sl encIV 1 m vp pal) (hp2 : Rows2 m pal) (hr' : Sl encI 1 m vr' roles') (hp' : Sl encIV 1 m vp' pal') (hp2' : Rows2 m pal') :
    PureAt Tryz.prog 12 [cv sp vr vp, cv sp' vr' vp'] m (.bool (sameC sp roles pal sp' roles' pal')) := by
  have hla := hp.len
  have hlb := hp'.len
  refine cc_enter Tryz.func12 Tryz.ntmps12 rfl (by kernel_rfl) (by simp) ?_
  simp -implicitDefEqProofs [go_sem, cv]
  refine wpGC_at (fun _ => ⟨by simp_all, sameInts_ok m vr vr' roles roles' hr hr'⟩) ?_
  simp -implicitDefEqProofs [go_sem, hla, hlb]
  refine wpIf_mk (fun h1 => ?_) (fun h1 => ?_)
  · have hs : sameC sp roles pal sp' roles' pal' = false := by
      rw [Bool.eq_false_iff]; intro h
      simp [sameC] at h
      have hl := congrArg List.length h.2; simp at hl
      simp [h.1.1, h.1.2, hl] at h1
    simp -implicitDefEqProofs [go_sem, hs]
  · simp at h1
    obtain ⟨⟨h0, h0'⟩, h1⟩ := h1
    subst h0; subst h0'
    have h1' : pal.length = pal'.length := by omega
    simp -implicitDefEqProofs [go_sem]
    refine loop_rule (fun i : Nat => ⟨[(5, .val (.int .i64 i)), (2, .loc 0 0), (3, .loc 1 0)], [some (26, [.int .i64 sp, vr, vp]), some (26, [.int .i64 sp, vr', vp'])], m⟩) (fun i => i ≤ pal.length ∧ (pal.map (·.l)).take i = (pal'.map (·.l)).take i) (fun i => pal.length - i) 0 ⟨by omega, by simp⟩ (St.le_mk (by simp [go_sem]) (by simp [go_sem]) (by simp [go_sem]) (Mem.le.refl _)) (fun i ⟨hi, he⟩ => ?_)
    simp -implicitDefEqProofs [go_sem, hla]
    refine wpIf_mk (fun h2 => ?_) (fun h2 => ?_)
    · simp at h2
      obtain ⟨x, hx⟩ := hp.get h2
      obtain ⟨y, hy⟩ := hp'.get (i := i) (by omega)
      have r1 := hp.rd_all hx rfl; have q1 := hp.adr hx 0
      have r2 := hp'.rd_all hy rfl; have q2 := hp'.adr hy 0
      simp only [Int.toNat_natCast] at hx hy
      simp -implicitDefEqProofs [go_sem]
      refine draw_rule [(0, 0), (1, 0), (2, 0), (3, 0), (4, 0), (5, 0), (6, 0), (7, 0), (8, 0), (9, 0), (10, 1), (11, 0)] (by kernel_rfl) (by simp [go_sem]) ?_
      simp -implicitDefEqProofs [go_sem, hla, hlb, r1, r2, q1, q2, hp.plain, hp'.plain, encIV, h2, show i < pal'.length by omega]
      refine wpCall_at (sameInts_ok m _ _ x.l y.l (hp2 x (mem_at hx)) (hp2' y (mem_at hy))) ?_
      simp -implicitDefEqProofs [go_sem]
      refine wpIf_mk (fun h3 => ?_) (fun h3 => ?_)
      · simp at h3
        simp -implicitDefEqProofs [go_sem, sameC]
        exact ne_of_at (map_at hx) (map_at hy) h3
      · simp at h3
        simp -implicitDefEqProofs [go_sem, wrapS h2 hp.max]
        exact roundK_normal (i + 1) ⟨by omega, take_eq_succ (map_at hx) (map_at hy) he h3⟩ (St.le_mk (by simp [go_sem]) (by simp [go_sem]) (by simp [go_sem]) (Mem.le.refl _)) (by omega)
    · simp at h2
      simp -implicitDefEqProofs [go_sem, sameC]
      exact take_eq_of (by simpa using h1') (by simpa using h2) he
theorem sameColor_ok (m : Mem) (sp : Int) (vr vp : Value) (roles : List Int) (pal : List IntsV) (sp' : Int) (vr' vp' : Value) (roles' : List Int) (pal' : List IntsV)
    (hr : Sl encI 1 m vr roles) (hp : Sl encIV 1 m vp pal) (hp2 : Rows2 m pal) (hr' : Sl encI 1 m vr' roles') (hp' : Sl encIV 1 m vp' pal') (hp2' : Rows2 m pal') :
    PureAt Tryz.prog 11 [cv sp vr vp, cv sp' vr' vp'] m (.bool (sameC sp roles pal sp' roles' pal')) := by
  refine cc_enter Tryz.func11 Tryz.ntmps11 rfl (by kernel_rfl) (by simp) ?_
  simp -implicitDefEqProofs [go_sem, cv]
  refine wpGC_at (fun _ => ⟨by simp_all, equal_ok m vr vr' roles roles' hr hr'⟩) ?_
  simp -implicitDefEqProofs [go_sem]
  refine wpGC_at (fun _ => ⟨by simp_all, equalFunc_ok m vp vp' pal pal' hp hp' hp2 hp2'⟩) ?_
  simp -implicitDefEqProofs [go_sem, sameC]
/-- an entry of metadata -/
structure Met where
  k : ByteArray
  v : ByteArray
def encM (x : Met) : List Value := [.string x.k, .string x.v]
def Met.p (x : Met) : List UInt8 × List UInt8 := (x.k.toList, x.v.toList)
theorem metNe {x y : Met} : (!x.k.toList == y.k.toList || !x.v.toList == y.v.toList) = true ↔ x.p ≠ y.p := by
  simp [Met.p, Decidable.imp_iff_not_or]
def sameMs (a b : List Met) : Bool := decide (a.map Met.p = b.map Met.p)
theorem same47_ok (m : Mem) (va vb : Value) (a b : List Met) (ha : Sl encM 2 m va a) (hb : Sl encM 2 m vb b) : PureAt Tryz.prog 13 [va, vb] m (.bool (sameMs a b)) := by
  have hla := ha.len
  have hlb := hb.len
  refine cc_enter Tryz.func13 Tryz.ntmps13 rfl (by kernel_rfl) (by simp) ?_
  simp -implicitDefEqProofs [go_sem, hla, hlb]
  refine wpIf_mk (fun h1 => ?_) (fun h1 => ?_)
  · simp at h1
    simp -implicitDefEqProofs [go_sem, sameMs]
    intro h; have := congrArg List.length h; simp at this; omega
  · simp at h1
    have h1' : a.length = b.length := by omega
    simp -implicitDefEqProofs [go_sem, hla]
    refine loop_rule (fun i : Nat => ⟨[(13, .val (.int .i64 i)), (12, .val (.int .i64 a.length)), (0, .val va), (1, .val vb)], [], m⟩) (fun i => i ≤ a.length ∧ (a.map Met.p).take i = (b.map Met.p).take i) (fun i => a.length - i) 0 ⟨by omega, by simp⟩ (St.le_mk (by simp [go_sem]) (by simp [go_sem]) (by simp [go_sem]) (Mem.le.refl _)) (fun i ⟨hi, he⟩ => ?_)
    simp -implicitDefEqProofs [go_sem, hla]
    refine wpIf_mk (fun h2 => ?_) (fun h2 => ?_)
    · simp at h2
      obtain ⟨x, hx⟩ := ha.get h2
      obtain ⟨y, hy⟩ := hb.get (i := i) (by omega)
      have r1 := ha.rd_all hx rfl; have q1 := ha.adr hx 0
      have r2 := hb.rd_all hy rfl; have q2 := hb.adr hy 0
      simp -implicitDefEqProofs [go_sem]
      refine draw_rule [(0, 0), (1, 0), (2, 0), (3, 0), (4, 0), (5, 0), (6, 0), (7, 0), (8, 0)] (by kernel_rfl) (by simp [go_sem]) ?_
      simp -implicitDefEqProofs [go_sem, hla, hlb, r1, r2, q1, q2, ha.plain, hb.plain, encM, h2, show i < b.length by omega]
      simp only [Int.toNat_natCast] at hx hy
      refine wpIf_mk (fun h3 => ?_) (fun h3 => ?_)
      · simp -implicitDefEqProofs [go_sem, sameMs]
        exact ne_of_at (map_at hx) (map_at hy) (metNe.1 h3)
      · simp -implicitDefEqProofs [go_sem, wrapS h2 ha.max]
        have h3' : x.p = y.p := Decidable.not_not.1 (fun h => by have := metNe.2 h; rw [h3] at this; cases this)
        exact roundK_normal (i + 1) ⟨by omega, take_eq_succ (map_at hx) (map_at hy) he h3'⟩ (St.le_mk (by simp [go_sem]) (by simp [go_sem]) (by simp [go_sem]) (Mem.le.refl _)) (by omega)
    · simp at h2
      simp -implicitDefEqProofs [go_sem, sameMs]
      exact take_eq_of (by simpa using h1') (by simpa using h2) he
end Go.Proofs.YtcidapidlgdacaaGreat
