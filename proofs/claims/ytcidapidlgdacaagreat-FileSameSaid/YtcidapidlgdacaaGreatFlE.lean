/- The facts logic, part E: 'light_ok'. -/
import Derived.Test.YtcidapidlgdacaaGreatFlD
set_option linter.unusedVariables false
set_option linter.unusedSimpArgs false
namespace Go.FL
section
variable {P : Program} {a : Act} {w : World} {s : St} {lam : Nat → Nat}

theorem foldl_overlay (vs : List Value) : ∀ (c : Array Value) (off k : Nat), off + k + vs.length ≤ c.size →
    ((vs.zipIdx k).foldl (fun (cs : Array Value) (x : Value × Nat) => match x with | (c, j) => cs.setIfInBounds (off + j) c) c).toList = overlay c.toList (off + k) vs := by
  induction vs with
  | nil => intro c off k h; simp [overlay]
  | cons v r ih =>
    intro c off k h
    simp only [List.zipIdx_cons, List.foldl_cons]
    have hlt : off + k < c.size := by simp at h; omega
    rw [ih (c.setIfInBounds (off + k) v) off (k + 1) (by simp at h ⊢; omega)]
    simp only [overlay, Array.toList_setIfInBounds]
    have hl : off + k < c.toList.length := by simpa using hlt
    rw [show off + (k + 1) = off + k + 1 by omega, List.take_set, List.drop_set, if_pos (by omega)]
    rw [List.take_succ_eq_append_getElem hl, List.set_append_right _ _ (by simp; omega)]
    simp [show min (off + k) c.size = off + k by omega]
    congr 1; omega
theorem fillL_ok {pl : Nat → Option (Nat × Nat)} : ∀ {parts : List (Nat × Value)} {cs : Array Value} {r : List Value}, fillL pl cs.toList parts = some r → Instr.fill pl cs parts = some r.toArray
  | [], cs, r, h => by simp only [fillL] at h; cases h; simp [Instr.fill]
  | (i, v) :: q, cs, r, h => by
    simp only [fillL] at h
    split at h
    · rename_i off sz hp
      split at h
      · rename_i hc
        rw [Instr.fill, hp]
        have h1 : v.cells.size = sz := by simpa using hc.1
        have h2 : off + sz ≤ cs.size := by simpa using hc.2
        have hf := foldl_overlay v.cells.toList cs off 0 (by simp; omega)
        simp only [Nat.add_zero] at hf
        rw [← hf] at h
        have := fillL_ok (parts := q) h
        simp only []
        rw [if_neg (by simp only [ne_eq, Bool.or_eq_true, decide_eq_true_eq]; omega)]
        rw [← Array.foldl_toList, Array.toList_zipIdx]
        exact this
      · cases h
    · cases h

theorem tzero_ok {T : TypeId} {z : List Value} (h : tzero P T = some z) : ∃ i v, P.info? T = some i ∧ i.zero = some v ∧ v.cells.toList = z := by
  unfold tzero at h
  cases hi : P.info? T with
  | none => rw [hi] at h; cases h
  | some i =>
    rw [hi] at h; simp only [Option.bind_some] at h
    cases hz : i.zero with
    | none => rw [hz] at h; cases h
    | some v => rw [hz] at h; cases h; exact ⟨i, v, rfl, hz, rfl⟩
theorem run_zeroValue' {T : TypeId} {i : TypeInfo} {v : Value} (h : P.info? T = some i) (hz : i.zero = some v) (w : World) : (zeroValue T).run P w = .ok v w := by
  simp [zeroValue, typeInfo, h, hz]

theorem run_fields (w : World) : ∀ {l : List Field} {fs : List (Nat × Nat)}, (l.mapM fun f => (P.info? f.type).map fun i => (f.offset, i.size)) = some fs →
    (l.mapM (m := Sem) (fun (f : Field) => do let n ← Go.sizeOf f.type; pure (f.offset, n))).run P w = .ok fs w
  | [], fs, h => by simp at h; subst h; simp
  | f :: r, fs, h => by
    simp only [List.mapM_cons, Option.pure_def, Option.bind_eq_bind] at h
    obtain ⟨x, hx, h⟩ := Option.bind_eq_some_iff.1 h
    obtain ⟨y, hy, h⟩ := Option.bind_eq_some_iff.1 h
    cases h
    obtain ⟨i, hi, rfl⟩ := Option.map_eq_some_iff.1 hx
    simp only [List.mapM_cons, Sem.run_bind, run_sizeOf' hi, Result.andThen_ok, Sem.run_pure, run_fields w hy]
theorem tarr_ok {T n sz : Nat} {e : TypeId} (h : tarr P T = some (n, e, sz)) : ∃ i, P.underlying T = some (.array n e) ∧ P.info? e = some i ∧ i.size = sz := by
  unfold tarr at h
  split at h
  · rename_i n' e' hu
    obtain ⟨i, hi, hx⟩ := Option.map_eq_some_iff.1 h
    cases hx; exact ⟨i, hu, hi, rfl⟩
  · cases h
theorem telem_ok {T sz by' : Nat} {e : TypeId} (h : telem P T = some (e, sz, by')) : ∃ i, P.underlying T = some (.slice e) ∧ P.info? e = some i ∧ i.size = sz ∧ i.bytes = by' := by
  unfold telem at h
  split at h
  · rename_i e' hu
    obtain ⟨i, hi, hx⟩ := Option.map_eq_some_iff.1 h
    cases hx; exact ⟨i, hu, hi, rfl, rfl⟩
  · cases h
theorem buildV_ok {T : TypeId} {parts : List (Nat × Value)} {v : Value} (h : buildV P T parts = some v) (w : World) : (Instr.build T parts.toArray).run P w = .ok v w := by
  unfold buildV at h
  split at h
  · rename_i z hz
    obtain ⟨i, zv, hi, hzz, hc⟩ := tzero_ok hz
    subst hc
    split at h
    · rename_i fs hfs
      cases hf : fillL (fun i => fs[i]?) zv.cells.toList parts with
      | none => rw [hf] at h; cases h
      | some cs =>
        rw [hf] at h; cases h
        unfold tfields at hfs
        split at hfs
        · rename_i fl hu
          unfold Instr.build
          have hm := run_fields w hfs
          have hfl := fillL_ok hf
          have hm2 : (Array.mapM (m := Sem) (fun (f : Field) => do let n ← Go.sizeOf f.type; pure (f.offset, n)) fl).run P w = .ok fs.toArray w := by
            have : fl = fl.toList.toArray := by simp
            rw [this, List.mapM_toArray, map_eq_pure_bind, Sem.run_bind, hm]; simp [Result.andThen]
          simp only [Sem.run_bind, run_zeroValue' hi hzz, Result.andThen_ok, run_underlying hu, hm2]
          have : (fun x : Nat => fs.toArray[x]?) = (fun i : Nat => fs[i]?) := by funext i; simp
          rw [this, hfl]; simp
        · cases hfs
    · split at h
      · rename_i n e sz ht
        obtain ⟨ie, hu, hie, rfl⟩ := tarr_ok ht
        cases hf : fillL (fun j => some (j * ie.size, ie.size)) zv.cells.toList parts with
        | none => rw [hf] at h; cases h
        | some cs =>
          rw [hf] at h; cases h
          have hfl := fillL_ok hf
          unfold Instr.build
          simp only [Sem.run_bind, run_zeroValue' hi hzz, Result.andThen_ok, run_underlying hu, run_sizeOf' hie, hfl]
          simp
      · cases h
  · cases h
end
end Go.FL
