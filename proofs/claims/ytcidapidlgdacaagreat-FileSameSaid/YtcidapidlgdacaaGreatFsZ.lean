import Derived.Test.YtcidapidlgdacaaGreatFsY
set_option linter.unusedVariables false
set_option linter.unusedSimpArgs false
namespace Go.Proofs.YtcidapidlgdacaaGreat
open Go.FL
set_option maxRecDepth 10000
structure Fil where
  sp : Int
  roles : List Int
  pal : List IntsV
  mets : List Met
  stream : List UInt8
structure FileAt (m : Mem) (vr vp vm vs : Value) (f : Fil) : Prop where
  r : Sl encI 1 m vr f.roles
  p : Sl encIV 1 m vp f.pal
  p2 : Rows2 m f.pal
  m' : Sl encM 2 m vm f.mets
  s : Sl enc8 1 m vs f.stream
theorem FileAt.le {m m' : Mem} {vr vp vm vs : Value} {f : Fil} (h : FileAt m vr vp vm vs f) (hl : m.le m') : FileAt m' vr vp vm vs f :=
  ⟨h.r.le hl, h.p.le hl, fun s hs => (h.p2 s hs).le hl, h.m'.le hl, h.s.le hl⟩
def fc (f : Fil) (vr vp vm vs : Value) : List Value := [.int .i64 f.sp, vr, vp, vm, vs]
def fv (f : Fil) (vr vp vm vs : Value) : Value := .agg (fc f vr vp vm vs).toArray
def sameSt (a b : List UInt8) : Bool := (⟨a.toArray⟩ : ByteArray).toList == (⟨b.toArray⟩ : ByteArray).toList
def sameF (f g : Fil) : Bool := sameC f.sp f.roles f.pal g.sp g.roles g.pal && sameMs f.mets g.mets && sameSt f.stream g.stream
theorem same48_ok (m : Mem) (f g : Fil) (vr vp vm vs ur up um us : Value) (hf : FileAt m vr vp vm vs f) (hg : FileAt m ur up um us g) :
    PureAt Tryz.prog 7 [fv f vr vp vm vs, fv g ur up um us] m (.bool (sameF f g)) := by
  refine cc_enter Tryz.func7 Tryz.ntmps7 rfl (by kernel_rfl) (by simp) ?_
  simp -implicitDefEqProofs [go_sem, fv, fc]
  refine wpCall_at (same46_ok m f.sp vr vp f.roles f.pal g.sp ur up g.roles g.pal hf.r hf.p hf.p2 hg.r hg.p hg.p2) ?_
  simp -implicitDefEqProofs [go_sem]
  refine wpGC_at (fun _ => ⟨by simp_all, same47_ok m vm um f.mets g.mets hf.m' hg.m'⟩) ?_
  simp -implicitDefEqProofs [go_sem]
  refine wpGC_at (fun _ => ⟨by simp_all, sameBytes_ok m vs us f.stream g.stream hf.s hg.s⟩) ?_
  simp -implicitDefEqProofs [go_sem, sameF, sameSt]
theorem fileSame_ok (m : Mem) (f g : Fil) (vr vp vm vs ur up um us : Value) (hf : FileAt m vr vp vm vs f) (hg : FileAt m ur up um us g) :
    PureAt Tryz.prog 6 [fv f vr vp vm vs, fv g ur up um us] m (.bool (sameF f g)) := by
  have hla := hf.m'.len
  have hlb := hg.m'.len
  refine cc_enter Tryz.func6 Tryz.ntmps6 rfl (by kernel_rfl) (by simp) ?_
  simp -implicitDefEqProofs [go_sem, fv, fc]
  refine wpCall_at (sameColor_ok m f.sp vr vp f.roles f.pal g.sp ur up g.roles g.pal hf.r hf.p hf.p2 hg.r hg.p hg.p2) ?_
  simp -implicitDefEqProofs [go_sem, hla, hlb, hf.s.str, hg.s.str]
  refine wpIf_mk (fun h1 => ?_) (fun h1 => ?_)
  · have hs : sameF f g = false := by
      rw [Bool.eq_false_iff]; intro h
      simp [sameF, sameMs, sameSt] at h
      have hl := congrArg List.length h.1.2; simp at hl
      simp [h.1.1, h.2, hl] at h1
    simp -implicitDefEqProofs [go_sem, hs]
  · simp at h1
    obtain ⟨⟨h0, h1⟩, h2⟩ := h1
    have h1' : f.mets.length = g.mets.length := by omega
    have hst : sameSt f.stream g.stream = true := by simpa [sameSt] using h2
    simp -implicitDefEqProofs [go_sem, hla]
    refine loop_rule (fun i : Nat => ⟨[(34, .val (.int .i64 i)), (33, .val (.int .i64 f.mets.length)), (32, .val vm), (2, .loc 0 0), (3, .loc 1 0)], [some (30, fc f vr vp vm vs), some (30, fc g ur up um us)], m⟩) (fun i => i ≤ f.mets.length ∧ (f.mets.map Met.p).take i = (g.mets.map Met.p).take i) (fun i => f.mets.length - i) 0 ⟨by omega, by simp⟩ (St.le_mk (by simp [go_sem]) (by simp [go_sem]) (by simp [go_sem, fc]) (Mem.le.refl _)) (fun i ⟨hi, he⟩ => ?_)
    simp -implicitDefEqProofs [go_sem, hla]
    refine wpIf_mk (fun h2 => ?_) (fun h2 => ?_)
    · simp at h2
      obtain ⟨x, hx⟩ := hf.m'.get h2
      obtain ⟨y, hy⟩ := hg.m'.get (i := i) (by omega)
      have r1 := hf.m'.rd_all hx rfl; have q1 := hf.m'.adr hx 0
      have r2 := hg.m'.rd_all hy rfl; have q2 := hg.m'.adr hy 0
      simp -implicitDefEqProofs [go_sem, hla, r1, q1, hf.m'.plain, encM, h2]
      refine draw_rule [(0, 0), (1, 0), (2, 0), (3, 0), (4, 0), (5, 0), (6, 0)] (by kernel_rfl) (by simp [go_sem]) ?_
      simp -implicitDefEqProofs [go_sem, hla, hlb, r1, r2, q1, q2, hf.m'.plain, hg.m'.plain, encM, fc, h2, show i < g.mets.length by omega]
      simp only [Int.toNat_natCast] at hx hy
      refine wpIf_mk (fun h3 => ?_) (fun h3 => ?_)
      · have hs : sameF f g = false := by
          have : sameMs f.mets g.mets = false := by simpa [sameMs] using ne_of_at (map_at hx) (map_at hy) (metNe.1 h3)
          simp [sameF, this]
        simp -implicitDefEqProofs [go_sem, hs]
      · simp -implicitDefEqProofs [go_sem, wrapS h2 hf.m'.max]
        have h3' : x.p = y.p := Decidable.not_not.1 (fun h => by have := metNe.2 h; rw [h3] at this; cases this)
        exact roundK_normal (i + 1) ⟨by omega, take_eq_succ (map_at hx) (map_at hy) he h3'⟩ (St.le_mk (by simp [go_sem]) (by simp [go_sem]) (by simp [go_sem, fc]) (Mem.le.refl _)) (by omega)
    · simp at h2
      have hs : sameF f g = true := by
        have := take_eq_of (by simpa using h1') (by simpa using h2) he
        simp [sameF, sameMs, this, h0, hst]
      simp -implicitDefEqProofs [go_sem, hs]
theorem sameF_self (f : Fil) : sameF f f = true := by simp [sameF, sameC, sameMs, sameSt]
theorem few48_ok (m : Mem) (f : Fil) (vr vp vm vs : Value) (hf : FileAt m vr vp vm vs f)
    (Q : Ending → Mem → Prop) (hQ : ∀ r m', m.le m' → Q (.returned (.bool r)) m') : CC Tryz.prog 4 [fv f vr vp vm vs] m Q := by
  have hlm := hf.m'.len
  have hlr := hf.r.len
  have hlp := hf.p.len
  refine cc_enter Tryz.func4 Tryz.ntmps4 rfl (by kernel_rfl) (by simp) ?_
  simp -implicitDefEqProofs [go_sem, fv, fc]
  refine fewBytes_ok m vs f.stream hf.s _ (fun r m1 k1 _ => ⟨_, rfl, ?_⟩)
  simp -implicitDefEqProofs [go_sem, hlm, hlr, hlp]
  refine wpIf_mk (fun h1 => ?_) (fun h1 => ?_)
  · simp -implicitDefEqProofs [go_sem]
    exact hQ _ m1 k1
  · have hf1 := hf.le k1
    simp -implicitDefEqProofs [go_sem, hlm]
    refine loop_rule (fun i : Nat => ⟨[(34, .val (.int .i64 i)), (33, .val (.int .i64 f.mets.length)), (32, .val vm), (1, .loc 0 0)], [some (30, fc f vr vp vm vs)], m1⟩) (fun i => i ≤ f.mets.length) (fun i => f.mets.length - i) 0 (by omega) (St.le_mk (by simp [go_sem]) (by simp [go_sem]) (by simp [go_sem, fc]) (Mem.le.refl _)) (fun i hi => ?_)
    simp -implicitDefEqProofs [go_sem]
    refine wpIf_mk (fun h2 => ?_) (fun h2 => ?_)
    · simp at h2
      obtain ⟨x, hx⟩ := hf1.m'.get h2
      have r1 := hf1.m'.rd_all hx rfl; have q1 := hf1.m'.adr hx 0
      simp -implicitDefEqProofs [go_sem, hlm, r1, q1, hf1.m'.plain, encM, h2]
      refine wpIf_mk (fun h3 => ?_) (fun h3 => ?_)
      · simp -implicitDefEqProofs [go_sem]
        exact hQ _ m1 k1
      · simp -implicitDefEqProofs [go_sem, wrapS h2 hf1.m'.max]
        exact roundK_normal (i + 1) (by omega) (St.le_mk (by simp [go_sem]) (by simp [go_sem]) (by simp [go_sem, fc]) (Mem.le.refl _)) (by omega)
    · simp -implicitDefEqProofs [go_sem, fc, hlp]
      refine loop_rule (fun i : Nat => ⟨[(53, .val (.int .i64 i)), (52, .val (.int .i64 f.pal.length)), (51, .val vp)], [], m1⟩) (fun i => i ≤ f.pal.length) (fun i => f.pal.length - i) 0 (by omega) (St.le_mk (by simp [go_sem]) (by simp [go_sem]) (by simp [go_sem]) (Mem.le.refl _)) (fun i hi => ?_)
      simp -implicitDefEqProofs [go_sem]
      refine wpIf_mk (fun h2 => ?_) (fun h2 => ?_)
      · simp at h2
        obtain ⟨x, hx⟩ := hf1.p.get h2
        have r1 := hf1.p.rd_all hx rfl; have q1 := hf1.p.adr hx 0
        simp only [Int.toNat_natCast] at hx
        have hx2 := (hf1.p2 x (mem_at hx)).len
        simp -implicitDefEqProofs [go_sem, hlp, r1, q1, hf1.p.plain, encIV, h2]
        refine wpIf_mk (fun h3 => ?_) (fun h3 => ?_)
        · simp -implicitDefEqProofs [go_sem]
          exact hQ _ m1 k1
        · simp -implicitDefEqProofs [go_sem, wrapS h2 hf1.p.max]
          exact roundK_normal (i + 1) (by omega) (St.le_mk (by simp [go_sem]) (by simp [go_sem]) (by simp [go_sem]) (Mem.le.refl _)) (by omega)
      · simp -implicitDefEqProofs [go_sem]
        exact hQ _ m1 k1
end Go.Proofs.YtcidapidlgdacaaGreat
