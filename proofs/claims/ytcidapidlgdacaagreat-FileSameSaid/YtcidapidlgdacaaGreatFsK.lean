import Derived.Test.YtcidapidlgdacaaGreatFsJ
set_option linter.unusedVariables false
set_option linter.unusedSimpArgs false
namespace Go.Proofs.YtcidapidlgdacaaGreat
open Go.FL
set_option maxRecDepth 10000
@[go_sem] theorem lenV_undef : lenV undef = none := rfl
@[go_sem] theorem lenV_tuple {x : Array Value} : lenV (.tuple x) = none := rfl
def validT (r : R) (tw th : Int) (l : List Comp) (p : Par) (prec : List Pt) (steps : List Int) (tile comp : Int) : Bool :=
  checkE r tw th l p prec steps == 0 && decide (0 ≤ tile) && decide (tile < (tilesL r tw th l).length) && decide (0 ≤ comp) && decide (comp < l.length)
theorem validT_ok (m : Mem) (r : R) (tw th : Int) (v vp vs : Value) (l : List Comp) (p : Par) (prec : List Pt) (steps : List Int) (tile comp : Int) (hl : Sl encC 4 m v l) (hp : Sl encP 2 m vp prec) (hs : Sl encI 1 m vs steps)
    (Q : Ending → Mem → Prop) (hQ : ∀ m', m.le m' → Q (.returned (.bool (validT r tw th l p prec steps tile comp))) m') : CC Tryz.prog 74 [hv r tw th v, pv p vp vs, .int .i64 tile, .int .i64 comp] m Q := by
  have hlen := hl.len
  refine cc_enter Tryz.func74 Tryz.ntmps74 rfl (by kernel_rfl) (by simp) ?_
  simp -implicitDefEqProofs [go_sem, hv, pv, pc]
  refine check_ok m r tw th v vp vs l p prec steps hl hp hs _ (fun m1 hle1 => ⟨_, rfl, ?_⟩)
  by_cases h1 : checkE r tw th l p prec steps = 0 ∧ 0 ≤ tile
  · simp -implicitDefEqProofs [go_sem, h1.1, h1.2]
    refine wpGC_split (fun _ => ⟨trivial, ?_⟩) (by simp)
    refine tiles24_ok m1 r tw th v l (hl.le hle1) _ (fun vq m2 hle2 hsl => ⟨vq, rfl, ?_⟩)
    have hql := hsl.len
    simp -implicitDefEqProofs [go_sem, hql, hlen]
    have := hQ m2 (hle1.trans hle2)
    simpa [validT, h1.1, h1.2] using this
  · have hf : (checkE r tw th l p prec steps == 0 && decide (0 ≤ tile)) = false := by simpa using h1
    simp -implicitDefEqProofs [go_sem, hf]
    refine wpGC_split (by simp) (fun _ => ?_)
    simp -implicitDefEqProofs [go_sem, hlen, undef]
    have := hQ m1 hle1
    simpa [validT, hf] using this
end Go.Proofs.YtcidapidlgdacaaGreat
