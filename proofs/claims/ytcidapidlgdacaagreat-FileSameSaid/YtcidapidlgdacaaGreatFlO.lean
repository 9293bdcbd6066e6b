/- The facts logic, part O: slices that can be read; rows of our own; operations on memory that is known; private blocks that escape. -/
import Derived.Test.YtcidapidlgdacaaGreatFlN
set_option linter.unusedVariables false
set_option linter.unusedSimpArgs false
namespace Go.FL

/-! ### slices that can be read -/
/-- v is a slice whose elements are l, each laid out by enc in sz cells -/
structure Sl {α : Type} (enc : α → List Value) (sz : Nat) (m : Mem) (v : Value) (l : List α) : Prop where
  len : lenV v = some l.length
  cap : ∃ c, capV v = some c ∧ l.length ≤ c
  plain : plainSl v
  max : l.length ≤ maxLen
  at' : ∀ i x, l[i]? = some x → ∃ b off n c, v = .slice (some ⟨b, off, none⟩) n c ∧ ∀ o u, (enc x)[o]? = some u → m.cell b (off + (i * sz + o)) = some u
def Mem.cle (m m' : Mem) : Prop := ∀ b o v, m.cell b o = some v → m'.cell b o = some v
theorem Mem.le.cle {m m' : Mem} (h : m.le m') : m.cle m' := h.cell
theorem Mem.le_nil (m : Mem) : Mem.nil.le m := ⟨fun b o v h => (by cases h), fun b x h => (by cases h), fun b x h => (by cases h)⟩
section
variable {α : Type} {enc : α → List Value} {sz : Nat} {m m' : Mem} {v : Value} {l : List α}
theorem Sl.mono (h : Sl enc sz m v l) (hm : m.cle m') : Sl enc sz m' v l :=
  ⟨h.len, h.cap, h.plain, h.max, fun i x hx => by
    obtain ⟨b, off, n, c, h1, h2⟩ := h.at' i x hx
    exact ⟨b, off, n, c, h1, fun o u hu => hm _ _ _ (h2 o u hu)⟩⟩
theorem Sl.le (h : Sl enc sz m v l) (hm : m.le m') : Sl enc sz m' v l := h.mono hm.cell
theorem Sl.nil : Sl enc sz m (.slice none 0 0) ([] : List α) :=
  ⟨rfl, ⟨0, rfl, Nat.le_refl _⟩, fun a n c h _ => (by cases h), Nat.zero_le _, fun i x hx => (by simp at hx)⟩
theorem Mem.rd_of {b : Nat} : ∀ {n o : Nat} {cs : List Value}, cs.length = n → (∀ j u, cs[j]? = some u → m.cell b (o + j) = some u) → m.rd b o n = some cs := by
  intro n
  induction n with
  | zero => intro o cs h _; rw [List.eq_nil_of_length_eq_zero h]; simp [Mem.rd]
  | succ n ih =>
    intro o cs h hc
    cases cs with
    | nil => cases h
    | cons x r =>
      have h1 := hc 0 x rfl
      have h2 := ih (o := o + 1) (cs := r) (by simpa using h) (fun j u hu => by have := hc (j + 1) u (by simpa using hu); rwa [show o + 1 + j = o + (j + 1) by omega])
      simp only [Mem.rd, List.range'_succ, List.mapM_cons, Option.pure_def, Option.bind_eq_bind] at h2 ⊢
      simp only [Nat.add_zero] at h1
      rw [h1, Option.bind_some, h2]; rfl
theorem Sl.rd (h : Sl enc sz m v l) {j : Int} {x : α} (hx : l[j.toNat]? = some x) {off k : Nat} (hk : off + k ≤ (enc x).length) :
    rdA m (eltAddr v j sz off) k = some (((enc x).drop off).take k) := by
  obtain ⟨b, o, n, c, rfl, h2⟩ := h.at' _ x hx
  simp only [eltAddr, rdA]
  refine Mem.rd_of (by simp; omega) fun i u hu => ?_
  have hi : i < k := by have := (List.getElem?_eq_some_iff.1 hu).1; simp at this; omega
  rw [List.getElem?_take_of_lt hi, List.getElem?_drop] at hu
  have := h2 _ u hu
  rwa [show o + (j.toNat * sz + off) + i = o + (j.toNat * sz + (off + i)) by omega]
theorem Sl.adr (h : Sl enc sz m v l) {j : Int} {x : α} (hx : l[j.toNat]? = some x) (off : Nat) : (eltAddr v j sz off).isSome = true := by
  obtain ⟨b, o, n, c, rfl, h2⟩ := h.at' _ x hx
  rfl
/-- the element as a whole -/
theorem Sl.rd_all (h : Sl enc sz m v l) {j : Int} {x : α} (hx : l[j.toNat]? = some x) (hsz : (enc x).length = sz) : rdA m (eltAddr v j sz 0) sz = some (enc x) := by
  have := h.rd hx (off := 0) (k := sz) (by omega)
  rw [this, List.drop_zero, List.take_of_length_le (by omega)]
theorem Sl.sub (h : Sl enc sz m v l) {lo hi : Int} (h0 : 0 ≤ lo) (h1 : lo ≤ hi) (h2 : hi ≤ l.length) : Sl enc sz m (subV v lo hi sz) ((l.drop lo.toNat).take (hi.toNat - lo.toNat)) := by
  obtain ⟨c, hc, hle⟩ := h.cap
  have hlen := h.len
  cases v with
  | slice a n c' =>
    simp only [lenV, Option.some.injEq, capV] at hlen hc; subst hlen; subst hc
    have hl : ((l.drop lo.toNat).take (hi.toNat - lo.toNat)).length = hi.toNat - lo.toNat := by simp; omega
    refine ⟨by rw [hl]; rfl, ⟨_, rfl, by rw [hl]; omega⟩, ?_, by rw [hl]; have := h.max; omega, fun i x hx => ?_⟩
    · intro ad n' k' he hpos
      simp only [subV, Value.slice.injEq] at he
      obtain ⟨he, hen, _⟩ := he
      split at he
      · exact h.plain ad _ c' (by rw [he]) (by omega)
      · cases a with
        | none => cases he
        | some a =>
          simp only [Option.map_some, Option.some.injEq] at he; subst he
          have := h.plain a _ c' rfl (by omega)
          unfold Addr.add; split <;> simp_all
    · have hi' : i < hi.toNat - lo.toNat := by have := (List.getElem?_eq_some_iff.1 hx).1; omega
      rw [List.getElem?_take_of_lt hi', List.getElem?_drop] at hx
      obtain ⟨b, off, n', k', he, h3⟩ := h.at' _ x hx
      cases he
      have hne : ¬ c' = lo.toNat := by omega
      refine ⟨b, off + lo.toNat * sz, _, _, by simp only [subV, if_neg hne, Option.map_some, show (⟨b, off, none⟩ : Addr).add (lo.toNat * sz) = ⟨b, off + lo.toNat * sz, none⟩ by unfold Addr.add; split <;> simp_all]; rfl, fun o u hu => ?_⟩
      have := h3 o u hu
      rwa [show off + lo.toNat * sz + (i * sz + o) = off + ((lo.toNat + i) * sz + o) by rw [Nat.add_mul]; omega]
  | _ => cases hlen
theorem Sl.get (h : Sl enc sz m v l) {i : Nat} (hi : i < l.length) : ∃ x, l[((i : Nat) : Int).toNat]? = some x := ⟨l[i], by simp [hi]⟩
end
/-- bytes -/
def enc8 (x : UInt8) : List Value := [.int .u8 (x.toNat : Int)]
def encI (x : Int) : List Value := [.int .i64 x]
theorem u8s_enc : ∀ l : List UInt8, u8s (l.flatMap enc8) = some l
  | [] => rfl
  | x :: r => by
    simp only [List.flatMap_cons, enc8, List.cons_append, List.nil_append, u8s, u8s_enc r, Option.map_some]
    simp
theorem flatMap_len {α : Type} {enc : α → List Value} {sz : Nat} (he : ∀ x, (enc x).length = sz) : ∀ l : List α, (l.flatMap enc).length = l.length * sz
  | [] => by simp
  | x :: r => by simp only [List.flatMap_cons, List.length_append, he, flatMap_len he r, List.length_cons]; rw [Nat.add_mul, Nat.one_mul, Nat.add_comm]
theorem flatMap_get {α : Type} {enc : α → List Value} {sz : Nat} (he : ∀ x, (enc x).length = sz) : ∀ {l : List α} {i : Nat} {x : α}, l[i]? = some x → ∀ {o : Nat}, o < sz → (l.flatMap enc)[i * sz + o]? = (enc x)[o]?
  | [], i, x, h, o, ho => by simp at h
  | y :: r, 0, x, h, o, ho => by
    simp at h; subst h
    rw [List.flatMap_cons, Nat.zero_mul, Nat.zero_add, List.getElem?_append_left (by rw [he]; exact ho)]
  | y :: r, i + 1, x, h, o, ho => by
    rw [List.flatMap_cons, List.getElem?_append_right (by rw [he, Nat.add_mul]; omega), he]
    rw [show (i + 1) * sz + o - sz = i * sz + o by rw [Nat.add_mul]; omega]
    exact flatMap_get he (by simpa using h) ho
theorem Sl.str {m : Mem} {v : Value} {l : List UInt8} (h : Sl enc8 1 m v l) : strV m v = some (.string ⟨l.toArray⟩) := by
  have hlen := h.len
  cases v with
  | slice a n c =>
    simp only [lenV, Option.some.injEq] at hlen; subst hlen
    cases a with
    | none =>
      have : l = [] := by
        cases l with
        | nil => rfl
        | cons x r => obtain ⟨b, off, n, c', he, _⟩ := h.at' 0 x rfl; cases he
      subst this; rfl
    | some a =>
      have hp : l.length = 0 ∨ a.spot = none := by
        rcases Nat.eq_zero_or_pos l.length with h0 | h0
        · exact .inl h0
        · exact .inr (h.plain a _ c rfl h0)
      have : m.rd a.block a.off l.length = some (l.flatMap enc8) := by
        refine Mem.rd_of (by rw [flatMap_len (sz := 1) (fun _ => rfl)]; omega) fun j u hu => ?_
        have hj : j < l.length := by have := (List.getElem?_eq_some_iff.1 hu).1; rw [flatMap_len (sz := 1) (fun _ => rfl)] at this; omega
        obtain ⟨b, off, n, c', he, h2⟩ := h.at' j l[j] (by simp)
        cases he
        have h3 := flatMap_get (enc := enc8) (sz := 1) (fun _ => rfl) (l := l) (i := j) (x := l[j]) (by simp) (o := 0) (by omega)
        rw [Nat.mul_one, Nat.add_zero, hu] at h3
        have := h2 0 u h3.symm
        simpa using this
      simp only [strV, if_pos hp, this, u8s_enc, Option.map_some]
  | _ => cases hlen

/-! ### rows of our own -/
/-- v is nil or a row of our own that m0 does not know; its elements are l -/
def Own {α : Type} (enc : α → List Value) (sz : Nat) (T : TypeId) (m0 m : Mem) (v : Value) (l : List α) : Prop :=
  (v = .slice none 0 0 ∧ l = []) ∨ ∃ b cap, v = .slice (some ⟨b, 0, none⟩) l.length cap ∧ m0.fresh b ∧ l.length ≤ cap ∧ cap ≤ maxLen ∧
    m.own b = some (T, l.length * sz, cap * sz) ∧ ∀ o u, (l.flatMap enc)[o]? = some u → m.cell b o = some u
/-- what a step leaves of other blocks -/
structure Grew (m m' : Mem) (r : Option Nat) : Prop where
  keep : ∀ b, ¬ m.fresh b → r ≠ some b → (∀ o, m'.cell b o = m.cell b o) ∧ m'.own b = m.own b ∧ m'.obj b = m.obj b
theorem fresh_of_own {m : Mem} {b : Nat} {x : TypeId × Nat × Nat} (h : m.own b = some x) : ¬ m.fresh b := fun hf => by rw [hf.2.1] at h; cases h
theorem fresh_of_cell {m : Mem} {b o : Nat} {x : Value} (h : m.cell b o = some x) : ¬ m.fresh b := fun hf => by rw [hf.1] at h; cases h
theorem fresh_of_obj {m : Mem} {b : Nat} {x : Obj} (h : m.obj b = some x) : ¬ m.fresh b := fun hf => by rw [hf.2.2] at h; cases h
theorem Grew.refl (m : Mem) (r : Option Nat) : Grew m m r := ⟨fun _ _ _ => ⟨fun _ => rfl, rfl, rfl⟩⟩
theorem Grew.le {m0 m m' : Mem} {r : Option Nat} (h : Grew m m' r) (h0 : m0.le m) (hr : ∀ b, r = some b → m0.fresh b) : m0.le m' := by
  have key : ∀ b, ¬ m0.fresh b → (∀ o, m'.cell b o = m.cell b o) ∧ m'.own b = m.own b ∧ m'.obj b = m.obj b := fun b hb =>
    h.keep b (fun hf => hb (h0.fresh hf)) (fun he => hb (hr b he))
  refine ⟨fun b o v hv => ?_, fun b x hx => ?_, fun b x hx => ?_⟩
  · rw [(key b (fresh_of_cell hv)).1]; exact h0.cell b o v hv
  · rw [(key b (fresh_of_own hx)).2.1]; exact h0.own b x hx
  · rw [(key b (fresh_of_obj hx)).2.2]; exact h0.obj b x hx
section
variable {α β : Type} {enc : α → List Value} {sz : Nat} {T : TypeId} {m0 m m' : Mem} {v : Value} {l : List α}
theorem Own.nil : Own enc sz T m0 m (.slice none 0 0) ([] : List α) := .inl ⟨rfl, rfl⟩
theorem Own.blk (h : Own enc sz T m0 m v l) : ∀ b, v.ownBlock = some b → m0.fresh b ∧ ¬ m.fresh b := by
  intro b hb
  rcases h with ⟨rfl, rfl⟩ | ⟨b', cap, rfl, h1, h2, h3, h4, h5⟩
  · cases hb
  · cases hb; exact ⟨h1, fresh_of_own h4⟩
theorem Own.max (h : Own enc sz T m0 m v l) : l.length ≤ maxLen := by
  rcases h with ⟨rfl, rfl⟩ | ⟨b, cap, rfl, h1, h2, h3, h4, h5⟩
  · exact Nat.zero_le _
  · omega
theorem Own.sl (h : Own enc sz T m0 m v l) (he : ∀ x, (enc x).length = sz) : Sl enc sz m v l := by
  rcases h with ⟨rfl, rfl⟩ | ⟨b, cap, rfl, h1, h2, h3, h4, h5⟩
  · exact Sl.nil
  · refine ⟨rfl, ⟨cap, rfl, h2⟩, fun a n c h _ => by cases h; rfl, by omega, fun i x hx => ⟨b, 0, _, _, rfl, fun o u hu => ?_⟩⟩
    have ho : o < sz := by have := (List.getElem?_eq_some_iff.1 hu).1; rwa [he] at this
    rw [Nat.zero_add]; exact h5 _ _ (by rw [flatMap_get he hx ho]; exact hu)
/-- another row of ours -/
theorem Own.grew (h : Own enc sz T m0 m v l) {r : Option Nat} (hg : Grew m m' r) (hr : v.ownBlock = none ∨ v.ownBlock ≠ r) : Own enc sz T m0 m' v l := by
  rcases h with ⟨rfl, rfl⟩ | ⟨b, cap, rfl, h1, h2, h3, h4, h5⟩
  · exact .inl ⟨rfl, rfl⟩
  · have hr' : r ≠ some b := by
      rcases hr with hr | hr
      · cases hr
      · exact fun he => hr (by rw [he]; rfl)
    obtain ⟨k1, k2, k3⟩ := hg.keep b (fresh_of_own h4) hr'
    exact .inr ⟨b, cap, rfl, h1, h2, h3, by rw [k2]; exact h4, fun o u hu => by rw [k1]; exact h5 o u hu⟩
theorem Own.le (h : Own enc sz T m0 m v l) (hl : m.le m') : Own enc sz T m0 m' v l := by
  rcases h with ⟨rfl, rfl⟩ | ⟨b, cap, rfl, h1, h2, h3, h4, h5⟩
  · exact .inl ⟨rfl, rfl⟩
  · exact .inr ⟨b, cap, rfl, h1, h2, h3, hl.own b _ h4, fun o u hu => hl.cell b o u (h5 o u hu)⟩
/-- the base may know less -/
theorem Own.base {m1 : Mem} (h : Own enc sz T m0 m v l) (hl : m1.le m0) : Own enc sz T m1 m v l := by
  rcases h with ⟨rfl, rfl⟩ | ⟨b, cap, rfl, h1, h2, h3, h4, h5⟩
  · exact .inl ⟨rfl, rfl⟩
  · exact .inr ⟨b, cap, rfl, hl.fresh h1, h2, h3, h4, h5⟩
end
end Go.FL
