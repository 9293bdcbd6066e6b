import Derived.Test.YtcidapidlgdacaaGreatFsAC
set_option linter.unusedVariables false
set_option linter.unusedSimpArgs false
namespace Go.Proofs.YtcidapidlgdacaaGreat
open Go.FL
set_option maxRecDepth 10000
@[go_sem] theorem tb_zero9 : tzero Tryz.prog 9 = some [.string ByteArray.empty] := by kernel_rfl
theorem typed_ne (m : Mem) (va vb : Value) (a b : Nat) (ha : lenV va = some a) (hb : lenV vb = some b) (hab : (a : Int) ≠ b) : PureAt Tryz.prog 42 [va, vb] m (.bool false) := by
  refine cc_enter Tryz.func42 Tryz.ntmps42 rfl (by kernel_rfl) (by simp) ?_
  simp -implicitDefEqProofs [go_sem, ha, hb]
  refine wpIf_mk (fun h1 => ?_) (fun h1 => ?_)
  · simp -implicitDefEqProofs [go_sem]
  · simp at h1; omega
theorem boxParse_sign (m : Mem) (v : Value) (hb : Sl enc8 1 m v L12)
    (Q : Ending → Mem → Prop) (hQ : ∀ x m' vo, m.le m' → x.t = bSign → Sl enc8 1 m' (.slice x.a x.n x.c) [13, 10, 135, 10] → Sl encBx 3 m' vo [x] → Q (.returned (.tuple #[vo, .int .i64 0])) m') :
    CC Tryz.prog 40 [v] m Q := by
  have hlen : lenV v = some 12 := hb.len
  refine cc_enter Tryz.func40 Tryz.ntmps40 rfl (by kernel_rfl) (by simp) ?_
  simp -implicitDefEqProofs [go_sem, hlen]
  refine sem_mat 0 rfl (fun br hf => ?_)
  refine sem_run rfl ?_
  simp -implicitDefEqProofs [go_sem]
  refine list_sign m _ br v (le_setRow hf _ _ _) hf (by simp [Mem.setRow]) (by simp [Mem.setRow]) (by simp [Mem.setRow]) hb _ (fun x m' vo k1 k2 k3 k4 => ⟨_, rfl, ?_⟩)
  simp -implicitDefEqProofs [go_sem]
  exact hQ x m' vo k1 k2 k3 k4
theorem sign_ascii : ∀ i (h : i < bSign.size), (bSign[i]'h).toNat < 128 := by
  intro i h
  have h4 : i < 4 := h
  have : ∀ (a : Array UInt8) (hh : i < a.size), a = #[115, 105, 103, 110] → (a[i]'hh).toNat < 128 := by
    rintro a hh rfl
    rcases (show i = 0 ∨ i = 1 ∨ i = 2 ∨ i = 3 by omega) with rfl | rfl | rfl | rfl <;> simp
  exact this bSign.data h rfl
theorem outline_sign (m : Mem) (v : Value) (hb : Sl enc8 1 m v L12)
    (Q : Ending → Mem → Prop) (hQ : ∀ m', m.le m' → Q (.returned (.tuple #[.map none, .slice none 0 0, .int .i64 20])) m') :
    CC Tryz.prog 20 [v] m Q := by
  have hlen : lenV v = some 12 := hb.len
  refine cc_enter Tryz.func20 Tryz.ntmps20 rfl (by kernel_rfl) (by simp) ?_
  simp -implicitDefEqProofs [go_sem, hlen]
  refine boxParse_sign m v hb _ (fun x m1 vo k1 k2 k3 k4 => ⟨_, rfl, ?_⟩)
  have hl : lenV vo = some 1 := k4.len
  have r0 := k4.rd (j := 0) (x := x) rfl (off := 0) (k := 1) (by simp [encBx])
  have a0 := k4.adr (j := 0) (x := x) rfl 0
  have r1 := k4.rd (j := 0) (x := x) rfl (off := 1) (k := 1) (by simp [encBx])
  have a1 := k4.adr (j := 0) (x := x) rfl 1
  simp [encBx] at r0 r1
  rw [k2] at r0
  simp -implicitDefEqProofs [go_sem, hl, r0, a0, k4.plain]
  refine wpGC_split (fun _ => ⟨trivial, same_self m1 bSign (by simp [bSign, maxLen, ByteArray.size]) sign_ascii _ (fun m2 j1 => ⟨_, rfl, ?_⟩)⟩) (by simp)
  have k4' := k4.le j1
  have r1' := k4'.rd (j := 0) (x := x) rfl (off := 1) (k := 1) (by simp [encBx])
  simp [encBx] at r1'
  have hst := (k3.le j1).str
  simp -implicitDefEqProofs [go_sem, hl, a0, a1, r1', k4.plain, hst]
  refine sem_mat 0 rfl (fun b3 hf => ?_)
  have j2 := le_setRow hf 9 [.string ⟨#[115, 105, 103, 110]⟩, .string ⟨#[104, 101, 97, 100]⟩, .string ⟨#[99, 111, 100, 101]⟩] 3
  obtain ⟨m3, hm3⟩ : ∃ m3, m3 = m2.setRow b3 9 [.string ⟨#[115, 105, 103, 110]⟩, .string ⟨#[104, 101, 97, 100]⟩, .string ⟨#[99, 111, 100, 101]⟩] 3 := ⟨_, rfl⟩
  refine sem_run rfl ?_
  simp -implicitDefEqProofs [go_sem]
  rw [← hm3] at j2 ⊢
  refine wpCall_at (typed_ne m3 vo (.slice (some ⟨b3, 0, none⟩) 3 3) 1 3 hl rfl (by omega)) ?_
  cases hq : rdA m3 (eltAddr vo 1 3 2) 1 with
  | none =>
    simp -implicitDefEqProofs [go_sem, hl, hq, undef]
    refine wpGC_at (r := .bool true) (fun h => by simp at h) ?_
    simp -implicitDefEqProofs [go_sem, hl, hq, undef]
    refine wpGC_at (r := .bool true) (fun h => by simp at h) ?_
    simp -implicitDefEqProofs [go_sem, hl, hq, undef]
    exact hQ m3 ((k1.trans j1).trans j2)
  | some cs =>
    have hcs : cs.length = 1 := (Mem.rd_get (m := m3) (b := match eltAddr vo 1 3 2 with | some a => a.block | none => 0) (n := 1) (o := match eltAddr vo 1 3 2 with | some a => a.off | none => 0) (cs := cs) (by
      unfold rdA at hq
      cases he : eltAddr vo 1 3 2 with
      | none => rw [he] at hq; cases hq
      | some a => rw [he] at hq; exact hq)).1
    obtain ⟨u, rfl⟩ := List.length_eq_one_iff.1 hcs
    simp -implicitDefEqProofs [go_sem, hl, hq, undef]
    refine wpGC_at (r := .bool true) (fun h => by simp at h) ?_
    simp -implicitDefEqProofs [go_sem, hl, hq, undef]
    refine wpGC_at (r := .bool true) (fun h => by simp at h) ?_
    simp -implicitDefEqProofs [go_sem, hl, hq, undef]
    exact hQ m3 ((k1.trans j1).trans j2)
theorem fParse_sign (m : Mem) (v : Value) (hb : Sl enc8 1 m v L12)
    (Q : Ending → Mem → Prop) (hQ : ∀ m', m.le m' → Q (.returned (.tuple #[.agg #[.int .i64 0, .slice none 0 0, .slice none 0 0, .slice none 0 0, .slice none 0 0], .int .i64 20])) m') :
    CC Tryz.prog 9 [v] m Q := by
  refine cc_enter Tryz.func9 Tryz.ntmps9 rfl (by kernel_rfl) (by simp) ?_
  simp -implicitDefEqProofs [go_sem]
  refine outline_sign m v hb _ (fun m1 k1 => ⟨_, rfl, ?_⟩)
  simp -implicitDefEqProofs [go_sem]
  exact hQ m1 k1
theorem awake_ok (m : Mem) (Q : Ending → Mem → Prop) (hQ : ∀ m', m.le m' → Q (.returned (.bool true)) m') : CC Tryz.prog 5 [] m Q := by
  refine cc_enter Tryz.func5 Tryz.ntmps5 rfl (by kernel_rfl) (by simp) ?_
  simp -implicitDefEqProofs [go_sem]
  refine sem_mat 0 rfl (fun b hf => ?_)
  have hle := le_setRow hf 5 (L12.flatMap enc8) 12
  have hown := Own.mat (m0 := m) (m := m) (enc := enc8) (sz := 1) (T := 5) (l := L12) hf (fun _ => rfl) (by simp [L12, maxLen])
  refine sem_run rfl ?_
  simp -implicitDefEqProofs [go_sem]
  refine fParse_sign _ _ (hown.sl (fun _ => rfl)) _ (fun m1 k1 => ⟨_, rfl, ?_⟩)
  simp -implicitDefEqProofs [go_sem]
  refine wpGC_at (fun _ => ⟨trivial, valid_nil m1⟩) ?_
  simp -implicitDefEqProofs [go_sem]
  exact hQ m1 (hle.trans k1)
end Go.Proofs.YtcidapidlgdacaaGreat
