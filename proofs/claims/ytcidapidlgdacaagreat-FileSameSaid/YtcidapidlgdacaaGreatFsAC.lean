import Derived.Test.YtcidapidlgdacaaGreatFsAB
set_option linter.unusedVariables false
set_option linter.unusedSimpArgs false
namespace Go.Proofs.YtcidapidlgdacaaGreat
open Go.FL
set_option maxRecDepth 10000
@[go_sem] theorem plainPtr_mk {b o : Nat} : plainPtr (.pointer (some ⟨b, o, none⟩)) ↔ True := ⟨fun _ => trivial, fun _ => ⟨b, o, rfl⟩⟩
theorem mset_le {m0 m : Mem} {b o : Nat} {vs : List Value} (h : m0.le m) (hf : m0.fresh b) : m0.le (mset m b o vs) := by
  refine ⟨fun b' o' v hv => ?_, fun b' x hx => h.own _ _ hx, fun b' x hx => h.obj _ _ hx⟩
  have hne : b' ≠ b := fun e => by subst e; rw [hf.1] at hv; cases hv
  simp only [mset, if_neg hne]; exact h.cell _ _ _ hv
def bSign : ByteArray := ⟨#[115, 105, 103, 110]⟩
def L12 : List UInt8 := [0, 0, 0, 12, 115, 105, 103, 110, 13, 10, 135, 10]
theorem sign_toList : bSign.toList = [115, 105, 103, 110] := by kernel_rfl
theorem known_sign (m : Mem) : PureAt Tryz.prog 117 [.string bSign] m (.bool true) := by
  refine cc_enter Tryz.func117 Tryz.ntmps117 rfl (by kernel_rfl) (by simp) ?_
  simp -implicitDefEqProofs [go_sem]
  simp -implicitDefEqProofs [go_sem, show bSign = ⟨#[115, 105, 103, 110]⟩ from rfl]
theorem super_sign (m : Mem) : PureAt Tryz.prog 118 [.string bSign] m (.bool false) := by
  refine cc_enter Tryz.func118 Tryz.ntmps118 rfl (by kernel_rfl) (by simp) ?_
  simp -implicitDefEqProofs [go_sem, sign_toList]
structure BxV where
  t : ByteArray
  a : Option Addr
  n : Nat
  c : Nat
  a2 : Option Addr
  n2 : Nat
  c2 : Nat
def encBx (x : BxV) : List Value := [.string x.t, .slice x.a x.n x.c, .slice x.a2 x.n2 x.c2]
theorem list_sign (m0 m : Mem) (br : Nat) (v : Value) (hle : m0.le m) (hf : m0.fresh br) (hown : m.own br = some (153, 1, 1)) (hobj : m.obj br = none) (hcell : m.cell br 0 = some (.int .i64 0)) (hb : Sl enc8 1 m0 v L12)
    (Q : Ending → Mem → Prop) (hQ : ∀ x m' vo, m0.le m' → x.t = bSign → Sl enc8 1 m' (.slice x.a x.n x.c) [13, 10, 135, 10] → Sl encBx 3 m' vo [x] → Q (.returned (.tuple #[vo, .int .i64 0])) m') :
    CC Tryz.prog 75 [.pointer (some ⟨br, 0, none⟩), v, .bool false] m Q := by
  have hlen : lenV v = some 12 := hb.len
  obtain ⟨cc, hcap, hcap'⟩ := hb.cap
  simp [L12] at hcap'
  refine cc_enter Tryz.func75 Tryz.ntmps75 rfl (by kernel_rfl) (by simp) ?_
  simp -implicitDefEqProofs [go_sem]
  refine loop_first (round_next ?_)
  simp -implicitDefEqProofs [go_sem, hlen]
  refine draw_rule [(0, 0), (1, 0), (2, 0), (3, 0), (4, 0), (5, 0), (6, 0), (7, 0), (8, 0), (9, 0), (10, 0), (11, 0), (12, 0), (13, 0), (14, 0), (15, 0), (16, 0), (17, 0), (18, 0), (19, 0), (20, 0), (21, 0), (22, 0)] (by kernel_rfl) (by simp [go_sem]) ?_
  have hbm := hb.le hle
  have r0 := hbm.rd_all (j := 0) (x := 0) rfl rfl; have q0 := hbm.adr (j := 0) (x := 0) rfl 0
  have r1 := hbm.rd_all (j := 1) (x := 0) rfl rfl; have q1 := hbm.adr (j := 1) (x := 0) rfl 0
  have r2 := hbm.rd_all (j := 2) (x := 0) rfl rfl; have q2 := hbm.adr (j := 2) (x := 0) rfl 0
  have r3 := hbm.rd_all (j := 3) (x := 12) rfl rfl; have q3 := hbm.adr (j := 3) (x := 12) rfl 0
  have s1 := (hbm.sub (lo := 4) (hi := 8) (by omega) (by omega) (by simp [L12])).str
  simp [L12] at s1
  simp -implicitDefEqProofs [go_sem, hlen, hcap, r0, q0, r1, q1, r2, q2, r3, q3, enc8, hb.plain, s1]
  refine ⟨by omega, ?_⟩
  refine wpGC_at (fun _ => ⟨trivial, known_sign m⟩) ?_
  simp -implicitDefEqProofs [go_sem]
  refine wpGC_at (r := .bool false) (fun h => ?_) ?_
  · simp at h
  simp -implicitDefEqProofs [go_sem, hlen]
  have rp : rdA m (ptrAddr (.pointer (some ⟨br, 0, none⟩)) 0) 1 = some [.int .i64 0] := by
    simp only [ptrAddr, rdA]; exact Mem.rd_of rfl (fun j u hu => by
      cases j with
      | zero => simp at hu; subst hu; exact hcell
      | succ j => simp at hu)
  simp -implicitDefEqProofs [go_sem, rp]
  refine sem_store (T := 3) (n := 1) (ag := false) (b := br) (off := 0) (T' := 153) (ne := 1) (c := 1) (v := .int .i64 1) rfl rfl rfl rfl rfl rfl hown hobj rfl rfl (by omega) ?_
  have hle2 : m0.le (mset m br 0 [.int .i64 1]) := mset_le hle hf
  have rp2 : rdA (mset m br 0 [.int .i64 1]) (ptrAddr (.pointer (some ⟨br, 0, none⟩)) 0) 1 = some [.int .i64 1] := by
    simp only [ptrAddr, rdA]; exact Mem.rd_of rfl (fun j u hu => by
      cases j with
      | zero => simp at hu; subst hu; simp [mset]
      | succ j => simp at hu)
  have hbm2 := hb.le hle2
  simp -implicitDefEqProofs [go_sem, rp2]
  refine wpCall_at (super_sign _) ?_
  have hsub := hbm2.sub (lo := 8) (hi := 12) (by omega) (by omega) (by simp [L12])
  have hsub2 := hb.sub (lo := 12) (hi := 12) (by omega) (by omega) (by simp [L12])
  simp -implicitDefEqProofs [go_sem, hlen, hcap]
  refine ⟨by omega, ?_⟩
  refine sem_append (enc := enc8) (sz := 1) (e := 5) (T := 28) (m0 := m0) (l := []) (l2 := [13, 10, 135, 10]) rfl rfl tb_elem28 tb_zero5 rfl (by omega) rfl hle2 Own.nil (.inr ⟨_, rfl, hsub⟩) (fun _ => rfl) (by simp [enc8, Value.oneCell']) (by simp [maxLen]) (by simp) (fun v1 m1 k1 o1 g1 _ => ?_)
  obtain ⟨a1, n1, c1, rfl, hn1⟩ := o1.shape3
  simp -implicitDefEqProofs [go_sem]
  refine sem_append (enc := encBx) (sz := 3) (e := 111) (T := 106) (m0 := m0) (l := []) (l2 := [⟨bSign, a1, n1, c1, none, 0, 0⟩]) rfl rfl tb_elem106 tb_zero111 rfl (by omega) rfl k1 Own.nil (.inl ⟨1, 111, rfl, rfl⟩) (fun _ => rfl) (by simp [encBx, Value.oneCell']) (by simp [maxLen]) (by simp) (fun v2 m2 k2 o2 g2 _ => ?_)
  obtain ⟨a2, n2, c2, rfl, hn2⟩ := o2.shape3
  have hl2 : lenV (subV v 12 12 1) = some 0 := hsub2.len
  simp -implicitDefEqProofs [go_sem, hlen, hcap]
  refine ⟨by omega, ?_⟩
  refine round_next ?_
  simp -implicitDefEqProofs [go_sem, hl2]
  exact hQ ⟨bSign, a1, n1, c1, none, 0, 0⟩ m2 _ k2 rfl ((o1.grew g2 (o1.ne (Own.nil : Own encBx 3 111 m0 m1 (.slice none 0 0) []) (by decide))).sl (fun _ => rfl)) (o2.sl (fun _ => rfl))
end Go.Proofs.YtcidapidlgdacaaGreat
