/- The facts logic, part U: what is known of a world that a call begins in; arguments that are read. -/
import Derived.Test.YtcidapidlgdacaaGreatFlT
import Derived.Deep.Slices
import Derived.OpenShut
import Derived.Below
set_option linter.unusedVariables false
set_option linter.unusedSimpArgs false
namespace Go.FL
open Go.ChangeShapes Go.WideShapes Go.Deep Go.RowKit
/-- all that stands in a world -/
def memOf (W : World) : Mem := ⟨fun b o => W.cell? ⟨b, o, none⟩, fun _ => none, fun _ => none⟩
theorem sat_memOf (W : World) : Sat W (memOf W) := ⟨fun b o v h => h, fun b T n c h => (by cases h), fun b x h => (by cases h)⟩
theorem Frm.below {W w' : World} {m' : Mem} (h : Frm (memOf W) m' W w') : Below W.heap.size W w' := ⟨h.os, h.tape, h.output, h.size, fun k hk => h.keep k hk rfl rfl⟩
section
variable {H : Type} {enc : TypeId × Value → H} {P : Program} {W : World} {base : Nat} {held : Bool}
theorem open_sl {α : Type} [Inhabited α] {e' : α → List Value} {sz : Nat} {R : α → Prop} {t e : TypeId} {fuel : Nat} {cs : List Value} {x : DataW H × List MemPlace} (ht : P.underlying t = some (.slice e)) (hC : P.cellsOf e = sz) (h0 : 0 < sz) (hsz : ∀ a, (e' a).length = sz)
    (he : ∀ n cs y, cs.length = sz → DataW.trod enc P W base (fun _ => true) held n e cs = some y → ∃ a, cs = e' a ∧ R a) (h : DataW.trod enc P W base (fun _ => true) held fuel t cs = some x) :
    ∃ a n c l, cs = [.slice a n c] ∧ Sl e' sz (memOf W) (.slice a n c) l ∧ ∀ y ∈ l, R y := by
  rcases open_slice ht h with ⟨hcs, _⟩ | ⟨a, len, cap, m, n, D, Pl, hcs, hb, hl, hm, hmm, hx, hi⟩
  · exact ⟨none, 0, 0, [], hcs, Sl.nil, fun y hy => by cases hy⟩
  · simp at hmm
    rw [hC] at hi
    obtain ⟨f, hf⟩ := choose_lt (n := len) (p := fun i (y : α) => R y ∧ ∀ o u, (e' y)[o]? = some u → W.cell? (a.add (i * sz + o)) = some u) (fun i hlt => by
      obtain ⟨cs', hc, hd⟩ := hi i (by omega)
      obtain ⟨_, hcl, hat⟩ := World.cells?_some hc
      obtain ⟨y, rfl, hy⟩ := he n cs' _ hcl hd
      refine ⟨y, hy, fun o u hu => ?_⟩
      have ho : o < sz := by have := (List.getElem?_eq_some_iff.1 hu).1; rwa [hsz] at this
      rw [← add_add, hat o ho]; exact hu)
    have hspot : 0 < len → a.spot = none := fun h1 => by
      obtain ⟨u, hu⟩ : ∃ u, (e' (f 0))[0]? = some u := ⟨(e' (f 0))[0]'(by rw [hsz]; exact h0), by simp⟩
      have := (hf 0 h1).2 0 u hu
      have := World.cell?_spot this
      simpa [Addr.add] using this
    refine ⟨some a, len, cap, (List.range len).map f, hcs, ⟨by simp [lenV], ⟨cap, rfl, by simpa using hl⟩, fun a' n' c' h1 h2 => by cases h1; exact hspot h2, by simp; omega, fun i x hx' => ?_⟩, fun y hy => ?_⟩
    · have hil : i < len := by have := (List.getElem?_eq_some_iff.1 hx').1; simpa using this
      have hx2 : f i = x := by simpa [hil] using hx'
      subst hx2
      obtain ⟨ab, ao, asp⟩ := a
      have hsp : asp = none := hspot (by omega)
      subst hsp
      refine ⟨ab, ao, len, cap, rfl, fun o u hu => ?_⟩
      have := (hf i hil).2 o u hu
      have e1 : (⟨ab, ao, none⟩ : Addr).add (i * sz + o) = ⟨ab, ao + (i * sz + o), none⟩ := by unfold Addr.add; split <;> simp_all
      rw [e1] at this
      exact this
    · obtain ⟨i, hi', rfl⟩ := List.mem_map.1 hy
      exact (hf i (by simpa using hi')).1
theorem read_u8 {t : TypeId} (ht : P.underlying t = some (.int .u8)) : ∀ n cs y, cs.length = 1 → DataW.trod enc P W base (fun _ => true) held n t cs = some y → ∃ a : UInt8, cs = enc8 a ∧ True := by
  intro n cs y _ h
  obtain ⟨k, rfl, _, hw⟩ := DataW.trod_int ht h
  have hb := bounds_u8 hw
  refine ⟨UInt8.ofNat k.toNat, ?_, trivial⟩
  have : ((UInt8.ofNat k.toNat).toNat : Int) = k := by
    rw [UInt8.toNat_ofNat', Nat.mod_eq_of_lt (by omega)]; omega
  rw [enc8, this]
theorem read_int {t : TypeId} (ht : P.underlying t = some (.int .i64)) : ∀ n cs y, cs.length = 1 → DataW.trod enc P W base (fun _ => true) held n t cs = some y → ∃ a : Int, cs = encI a ∧ I64 a := by
  intro n cs y _ h
  obtain ⟨k, rfl, _, hw⟩ := DataW.trod_int ht h
  refine ⟨k, rfl, ?_⟩
  simp [Lit.wf, IntKind.min, IntKind.max, IntKind.signed, IntKind.bits] at hw
  exact ⟨by omega, by omega⟩
end
end Go.FL
