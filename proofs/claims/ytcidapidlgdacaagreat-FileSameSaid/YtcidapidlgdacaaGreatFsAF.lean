/- FileSame: for every two files the law returns true: whatever the inputs, and reads its arguments as they were. -/
import Derived.Test.YtcidapidlgdacaaGreatRows
import Derived.Test.YtcidapidlgdacaaGreatFsAE
import Derived.Test.YtcidapidlgdacaaGreatFlU
import Derived.WalkKit
import Derived.ProofKit
import Derived.OpenShut
import Derived.ShutString
import Derived.ChangeOld
import Derived.Below
import Derived.SizedLaws
set_option linter.unusedVariables false
namespace Go.Proofs.YtcidapidlgdacaaGreat.FileSameRow
open Go.ChangeShapes Go.WideShapes Go.ChangeAt Go.RowKit Go.Deep Go.FL
theorem own : ownKnob Tryz.prog.godebug = none := by kernel_rfl
theorem laidOut : laidOutB Tryz.prog = true := by kernel_rfl
instance : Inhabited Met := ⟨⟨ByteArray.empty, ByteArray.empty⟩⟩
instance : Inhabited IntsV := ⟨⟨none, 0, 0, []⟩⟩
section
variable {H : Type} {enc : TypeId × Value → H} {W : World}
set_option maxRecDepth 100000 in
theorem read_met : ∀ n cs y, cs.length = 2 → DataW.trod enc Tryz.prog W 0 (fun _ => true) true n 36 cs = some y → ∃ a : Met, cs = encM a ∧ True := by
  intro n cs y hl h
  obtain ⟨xs, k, _, _, _, hx, hg⟩ := DataW.trod_struct Tryz.underlying36 h
  match cs, hl with
  | [c0, c1], _ =>
    match xs, hx with
    | [x0, x1], _ =>
      have g0 := hg 0 _ rfl
      have g1 := hg 1 _ rfl
      simp [show Tryz.prog.cellsOf 9 = 1 by kernel_rfl] at g0 g1
      obtain ⟨s0, e0, _, _⟩ := DataW.trod_string Tryz.underlying9 g0
      obtain ⟨s1, e1, _, _⟩ := DataW.trod_string Tryz.underlying9 g1
      simp at e0 e1; subst e0; subst e1
      exact ⟨⟨s0, s1⟩, rfl, trivial⟩
theorem read_row : ∀ n cs y, cs.length = 1 → DataW.trod enc Tryz.prog W 0 (fun _ => true) true n 23 cs = some y → ∃ a : IntsV, cs = encIV a ∧ Sl encI 1 (memOf W) (.slice a.a a.n a.c) a.l := by
  intro n cs y hl h
  obtain ⟨a, k, c, l, rfl, hs, _⟩ := open_sl (e' := encI) (sz := 1) (R := I64) Tryz.underlying23 (by kernel_rfl) (by omega) (fun _ => rfl) (read_int Tryz.underlying3) h
  exact ⟨⟨a, k, c, l⟩, rfl, hs⟩
set_option maxRecDepth 100000 in
theorem read_file {v : Value} {d : DataW H} {ps : List MemPlace} {base : Nat} (hv : Value.okWide Tryz.prog W .any base 30 v) (h : DataW.Trod enc Tryz.prog W 0 (fun _ => true) true 30 v d ps) :
    ∃ f vr vp vm vs, v = fv f vr vp vm vs ∧ FileAt (memOf W) vr vp vm vs f := by
  obtain ⟨cs, rfl, hsz⟩ := okWide_struct Tryz.underlying30 hv
  have hsz : cs.size = 5 := hsz.trans (by kernel_rfl)
  obtain ⟨l⟩ := cs
  match l, hsz with
  | [c0, c1, c2, c3, c4], _ =>
    obtain ⟨fuel, hf⟩ := h
    obtain ⟨xs, k, _, _, _, hx, hg⟩ := DataW.trod_struct Tryz.underlying30 hf
    match xs, hx with
    | [x0, x1, x2], _ =>
      have g0 := hg 0 _ rfl
      have g1 := hg 1 _ rfl
      have g2 := hg 2 _ rfl
      simp [Value.cells, show Tryz.prog.cellsOf 26 = 3 by kernel_rfl, show Tryz.prog.cellsOf 27 = 1 by kernel_rfl, show Tryz.prog.cellsOf 28 = 1 by kernel_rfl] at g0 g1 g2
      obtain ⟨ys, k', _, _, _, hy, hg'⟩ := DataW.trod_struct Tryz.underlying26 g0
      match ys, hy with
      | [y0, y1, y2], _ =>
        have j0 := hg' 0 _ rfl
        have j1 := hg' 1 _ rfl
        have j2 := hg' 2 _ rfl
        simp [show Tryz.prog.cellsOf 22 = 1 by kernel_rfl, show Tryz.prog.cellsOf 23 = 1 by kernel_rfl, show Tryz.prog.cellsOf 24 = 1 by kernel_rfl] at j0 j1 j2
        obtain ⟨sp, e0, _, _⟩ := DataW.trod_int Tryz.underlying22 j0
        obtain ⟨ra, rn, rc, rl, e1, hr, _⟩ := open_sl (e' := encI) (sz := 1) (R := I64) Tryz.underlying23 (by kernel_rfl) (by omega) (fun _ => rfl) (read_int Tryz.underlying3) j1
        obtain ⟨pa, pn, pc', pl, e2, hp, hp2⟩ := open_sl (e' := encIV) (sz := 1) (R := fun a : IntsV => Sl encI 1 (memOf W) (.slice a.a a.n a.c) a.l) Tryz.underlying24 (by kernel_rfl) (by omega) (fun _ => rfl) read_row j2
        obtain ⟨ma, mn, mc, ml, e3, hm, _⟩ := open_sl (e' := encM) (sz := 2) (R := fun _ : Met => True) Tryz.underlying27 (by kernel_rfl) (by omega) (fun _ => rfl) read_met g1
        obtain ⟨sa, sn, sc, sl, e4, hs, _⟩ := open_sl (e' := enc8) (sz := 1) (R := fun _ : UInt8 => True) Tryz.underlying28 (by kernel_rfl) (by omega) (fun _ => rfl) (read_u8 Tryz.underlying5) g2
        simp at e0 e1 e2 e3 e4
        subst e0; subst e1; subst e2; subst e3; subst e4
        exact ⟨⟨sp, rl, pl, ml, sl⟩, _, _, _, _, rfl, ⟨hr, hp, hp2, hm, hs⟩⟩
end
set_option maxRecDepth 100000 in
theorem lifted (os : Os) (started : os.Started) (H : Type) (enc : TypeId × Value → H) :
    ReturnsInHanded {} Tryz.checked os 3 .any (Rows.fileSameSpec.pre6 enc Tryz.prog Tryz.f3 Rows.fileSameRow.domain false) (Rows.fileSameSpec.post enc Tryz.prog Tryz.f3 false true false false) := by
  refine returnsInHanded_of_change_sized (C := Tryz.checked) own started (by kernel_rfl) Tryz.func3
    (ChangeSpec.witness6 (enc := enc) (C := Tryz.checked) false ⟨#[], #[.agg #[.int .i64 0, .slice none 0 0, .slice none 0 0, .slice none 0 0, .slice none 0 0], .agg #[.int .i64 0, .slice none 0 0, .slice none 0 0, .slice none 0 0, .slice none 0 0]], []⟩ 8 (by kernel_rfl) (by kernel_rfl) (by kernel_rfl) (by kernel_rfl)) ?_
  intro W base args ds gs before hval0 hW hcnd hsz0 _
  have hval : ∀ (j : Nat) t v, Tryz.f3.params[j]? = some t → args[j]? = some v → Value.okWide Tryz.prog W .any base t v := hval0
  have hW' := hW
  obtain ⟨p, q, hA0, hV, rfl, hfz, hnd⟩ := hW
  have hA : DataW.TrodAll enc Tryz.prog W 0 (fun _ => true) true Tryz.f3.params.toList args.toList ds p := hA0
  rw [Tryz.params3] at hA hval
  obtain ⟨v0, vs0, d0, ds0, p0, q0, hargs, rfl, rfl, h0, r0⟩ := trodAll_cons hA
  obtain ⟨v1, vs1, d1, ds1, p1, q1, rfl, rfl, rfl, h1, r1⟩ := trodAll_cons r0
  obtain ⟨rfl, rfl, rfl⟩ := trodAll_nil r1
  obtain rfl : args = #[v0, v1] := by cases args; simp_all
  obtain ⟨rfl, rfl⟩ := trodVars_none hV
  have lt0 : ∀ x ∈ p0, x.block < W.heap.size := by obtain ⟨m, hm⟩ := h0; exact DataW.trod_lt m _ _ _ hm
  have lt1 : ∀ x ∈ p1, x.block < W.heap.size := by obtain ⟨m, hm⟩ := h1; exact DataW.trod_lt m _ _ _ hm
  obtain ⟨f, vr, vp, vm, vs, rfl, hf⟩ := read_file (hval 0 30 v0 rfl rfl) h0
  obtain ⟨g, ur, up, um, us, rfl, hg⟩ := read_file (hval 1 30 v1 rfl rfl) h1
  clear hA0 hval0 hsz0
  have hcc := (law_ok (memOf W) f g vr vp vm vs ur up um us hf hg (fun e _ => e = .returned (.bool true)) (fun _ _ => rfl)).2 W (sat_memOf W)
  refine hcc.mono fun e W' ⟨m', hs', hfr, he⟩ => ?_
  have bel := hfr.below
  subst he
  exact ⟨_, rfl, _, _, _, [], _, [], hW', trodAll_mk1 (shut_bool Tryz.underlying4 _), (trodAll_cons_mk (Below.trod laidOut (by kernel_rfl) (of_decide_eq_true (by kernel_rfl)) h0 bel lt0) (trodAll_cons_mk (Below.trod laidOut (by kernel_rfl) (of_decide_eq_true (by kernel_rfl)) h1 bel lt1) trodAll_mk0)), rfl, bel.frame _, fun h => by cases h⟩
theorem over : Rows.fileSameRow.holds Tryz.pinned (OpenSpec.ofChange Rows.fileSameSpec) :=
  OpenClaim.holds_of_wide 3 Tryz.f3 rfl rfl rfl rfl rfl rfl rfl ⟨rfl, rfl, rfl, rfl, rfl⟩ rfl rfl rfl rfl rfl (by kernel_rfl) Tryz.func3 (by kernel_rfl)
    (of_decide_eq_true (by kernel_rfl)) (by unfold Func.isWrapper; first | (rw [if_pos (by decide +kernel)]; kernel_rfl) | (rw [if_neg (by decide +kernel)]; exact ⟨rfl, rfl⟩))
    (fun os started H enc _ => lifted os started H enc)
theorem proved : Rows.FileSameSaid := over
#print axioms proved
end Go.Proofs.YtcidapidlgdacaaGreat.FileSameRow
namespace Go.Proofs.YtcidapidlgdacaaGreat
theorem fileSame_holds : Rows.FileSameSaid := FileSameRow.proved
end Go.Proofs.YtcidapidlgdacaaGreat
