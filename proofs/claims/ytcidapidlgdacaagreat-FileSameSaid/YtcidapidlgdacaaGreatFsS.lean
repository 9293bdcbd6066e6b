import Derived.Test.YtcidapidlgdacaaGreatFsR
set_option linter.unusedVariables false
set_option linter.unusedSimpArgs false
namespace Go.Proofs.YtcidapidlgdacaaGreat
open Go.FL
set_option maxRecDepth 10000
theorem tdiv_w {a : Int} (h0 : 0 ≤ a) (h1 : a ≤ 1099511627776) {d : Int} (hd : 0 < d) : IntKind.i64.wrap (a.tdiv d) = a / d := by
  have h2 : a / d ≤ a := Int.ediv_le_self d h0
  have h3 : 0 ≤ a / d := Int.ediv_nonneg h0 (by omega)
  rw [Int.tdiv_eq_ediv_of_nonneg h0]; exact wrapI (by omega) (by omega)
theorem tmod_w {a : Int} (h0 : 0 ≤ a) (d : Int) : a.tmod d = a % d := Int.tmod_eq_emod_of_nonneg h0
def ub (b : List UInt8) (i : Nat) : Int := (u8at b i : Int)
theorem ub_bd (b : List UInt8) (i : Nat) : 0 ≤ ub b i ∧ ub b i < 256 := by have := u8at_lt b i; unfold ub; omega
theorem ub_wrap (b : List UInt8) (i : Nat) : IntKind.i64.wrap (ub b i) = ub b i := wrap_u8 b i
theorem ubAt {m : Mem} {v : Value} {b : List UInt8} (hb : Sl enc8 1 m v b) {j : Int} (h0 : 0 ≤ j) (h1 : j < b.length) :
    rdA m (eltAddr v j 1 0) 1 = some [.int .u8 (ub b j.toNat)] ∧ (eltAddr v j 1 0).isSome = true := byteAt hb h0 h1
def pcN (b : List UInt8) : Int := if 10 ≤ b.length then 10 + ub b 9 else 10
def precAt (b : List UInt8) (i : Nat) : Pt := ⟨ub b i % 16, ub b i / 16⟩
def precsN (b : List UInt8) (k : Nat) : List Pt := (List.range k).map fun i => precAt b (10 + i)
theorem precsN_succ (b : List UInt8) (k : Nat) : precsN b (k + 1) = precsN b k ++ [precAt b (10 + k)] := by simp [precsN, List.range_succ]
theorem precsN_len (b : List UInt8) (k : Nat) : (precsN b k).length = k := by simp [precsN]
def parZ : Par := ⟨0, 0, 0, 0, 0, 0, 0, false, false, false, false, false, false, false, false, 0, 0⟩
def pcPar (b : List UInt8) : Par := ⟨ub b 0, ub b 1, ub b 2, ub b 3, ub b 4, ub b 5, ub b 6, ub b 7 % 2 == 1, ub b 7 / 2 % 2 == 1, ub b 7 / 4 % 2 == 1, ub b 7 / 8 % 2 == 1, ub b 7 / 16 % 2 == 1, ub b 7 / 32 % 2 == 1, ub b 7 / 64 % 2 == 1, ub b 7 / 128 == 1, 0, ub b 8⟩
structure Cod where
  p : Par
  prec : List Pt
  err : Int
def parseCoding (c : Int) (b : List UInt8) : Cod :=
  if framedE c b.length 65442 (pcN b) ≠ 0 then ⟨parZ, [], framedE c b.length 65442 (pcN b)⟩ else ⟨pcPar b, precsN b (u8at b 9), 0⟩
theorem parseCoding_ok (m : Mem) (c : Int) (va : Option Addr) (vn vc : Nat) (b : List UInt8) (hb : Sl enc8 1 m (.slice va vn vc) b) (hbig : b.length ≤ 1099511627776)
    (Q : Ending → Mem → Prop) (hQ : ∀ vl m', m.le m' → Own encP 2 99 m m' vl (parseCoding c b).prec → Q (.returned (.tuple #[pv (parseCoding c b).p vl (.slice none 0 0), .int .i64 (parseCoding c b).err])) m') :
    CC Tryz.prog 17 [.agg #[.int .i64 c, .slice va vn vc]] m Q := by
  have hlen := hb.len
  have hvn : vn = b.length := by simpa [lenV] using hlen
  subst hvn
  refine cc_enter Tryz.func17 Tryz.ntmps17 rfl (by kernel_rfl) (by simp) ?_
  simp -implicitDefEqProofs [go_sem]
  obtain ⟨hx0, hx1⟩ := ub_bd b 9
  refine wpIf_join (JE [(4, .val (.int .i64 (pcN b))), (1, .loc 0 0), (2, .loc 1 0)] [some (55, [.int .i64 c, .slice va b.length vc]), some (63, pc parZ (.slice none 0 0) (.slice none 0 0))] m) (fun s' hs' => ?_) (fun h1 => ?_) (fun h1 => ?_)
  rotate_left
  · simp at h1
    obtain ⟨r9, a9⟩ := ubAt hb (j := 9) (by omega) (by omega)
    have e1 := ub_wrap b 9
    have e3 : IntKind.i64.wrap (10 + ub b 9) = 10 + ub b 9 := wrapI (by omega) (by omega)
    have hp : pcN b = 10 + ub b 9 := by rw [pcN, if_pos (by omega)]
    simp at r9
    simp -implicitDefEqProofs [go_sem, r9, a9, e1, e3, hb.plain, hp, pc, parZ]
    omega
  · simp at h1
    simp -implicitDefEqProofs [go_sem, pcN, show ¬ 10 ≤ b.length by omega, pc, parZ]
  · obtain ⟨E, L, m'⟩ := s'
    obtain ⟨⟨g4, g1, g2, _⟩, hL, hm⟩ := hs'
    simp only at g4 g1 g2 hL hm
    subst hL; subst hm
    simp -implicitDefEqProofs [go_sem, g4, g1, g2]
    refine wpCall_at (framed_ok m c va b.length vc 65442 (pcN b)) ?_
    simp -implicitDefEqProofs [go_sem, g4, g1, g2]
    refine wpIf_mk (fun h2 => ?_) (fun h2 => ?_)
    · simp at h2
      simp -implicitDefEqProofs [go_sem, g4, g1, g2, pc, parZ]
      have := hQ (.slice none 0 0) m (Mem.le.refl _)
      rw [parseCoding, if_pos h2] at this
      exact this Own.nil
    · simp at h2
      obtain ⟨hc, hl⟩ := framedE_zero h2
      have hlen' : (b.length : Int) = 10 + ub b 9 := by
        unfold pcN at hl
        split at hl
        · exact hl
        · omega
      have hpc : parseCoding c b = ⟨pcPar b, precsN b (u8at b 9), 0⟩ := by rw [parseCoding, if_neg (by simpa using h2)]
      obtain ⟨r7, a7⟩ := ubAt hb (j := 7) (by omega) (by omega)
      have e7 := ub_wrap b 7
      simp at r7
      simp -implicitDefEqProofs [go_sem, g4, g1, g2, r7, a7, e7, hb.plain, pc, parZ]
      refine ⟨by omega, ?_⟩
      refine SemCode.weaken (x := ⟨[(6, .val (.slice va b.length vc)), (7, .val (.int .i64 (ub b 7))), (4, .val (.int .i64 (pcN b))), (1, .loc 0 0), (2, .loc 1 0)], [some (55, [.int .i64 c, .slice va b.length vc]), some (63, pc parZ (.slice none 0 0) (.slice none 0 0))], m⟩)
        (St.le_mk (by simp [go_sem, g4, g1, g2]) (by simp [go_sem]) (by simp [go_sem, pc, parZ]) (Mem.le.refl _)) ?_
      refine draw_rule [(0, 0), (1, 0), (2, 0), (3, 0), (4, 0), (5, 0), (6, 0), (7, 0), (8, 0), (9, 0), (10, 0), (11, 0), (12, 0), (13, 0), (14, 0), (15, 0), (16, 0), (17, 0), (18, 0), (19, 0), (20, 0), (21, 0), (22, 0), (23, 0), (24, 0), (25, 0), (26, 0), (27, 0), (28, 0), (29, 0), (30, 0), (31, 0), (32, 0), (33, 2), (34, 1)] (by kernel_rfl) (by simp [go_sem]) ?_
      obtain ⟨r0, a0⟩ := ubAt hb (j := 0) (by omega) (by omega)
      obtain ⟨r1, a1⟩ := ubAt hb (j := 1) (by omega) (by omega)
      obtain ⟨r2, a2⟩ := ubAt hb (j := 2) (by omega) (by omega)
      obtain ⟨r3, a3⟩ := ubAt hb (j := 3) (by omega) (by omega)
      obtain ⟨r4, a4⟩ := ubAt hb (j := 4) (by omega) (by omega)
      obtain ⟨r5, a5⟩ := ubAt hb (j := 5) (by omega) (by omega)
      obtain ⟨r6, a6⟩ := ubAt hb (j := 6) (by omega) (by omega)
      obtain ⟨r8, a8⟩ := ubAt hb (j := 8) (by omega) (by omega)
      simp at r0 r1 r2 r3 r4 r5 r6 r8
      obtain ⟨f0, f1⟩ := ub_bd b 7
      have d2 := tdiv_w f0 (by omega) (d := 2) (by omega)
      have d4 := tdiv_w f0 (by omega) (d := 4) (by omega)
      have d8 := tdiv_w f0 (by omega) (d := 8) (by omega)
      have d16 := tdiv_w f0 (by omega) (d := 16) (by omega)
      have d32 := tdiv_w f0 (by omega) (d := 32) (by omega)
      have d64 := tdiv_w f0 (by omega) (d := 64) (by omega)
      have d128 := tdiv_w f0 (by omega) (d := 128) (by omega)
      have m1 := tmod_w f0 2
      have m2 := tmod_w (a := ub b 7 / 2) (by omega) 2
      have m4 := tmod_w (a := ub b 7 / 4) (by omega) 2
      have m8 := tmod_w (a := ub b 7 / 8) (by omega) 2
      have m16 := tmod_w (a := ub b 7 / 16) (by omega) 2
      have m32 := tmod_w (a := ub b 7 / 32) (by omega) 2
      have m64 := tmod_w (a := ub b 7 / 64) (by omega) 2
      simp -implicitDefEqProofs [go_sem, r0, r1, r2, r3, r4, r5, r6, r8, a0, a1, a2, a3, a4, a5, a6, a8, hb.plain, ub_wrap, pc, parZ, d2, d4, d8, d16, d32, d64, d128, m1, m2, m4, m8, m16, m32, m64]
      refine ⟨by omega, by omega, by omega, by omega, by omega, by omega, by omega, by omega, ?_⟩
      have hx9 : ub b 9 = (u8at b 9 : Int) := rfl
      refine loop_rule (fun x : Nat × Mem × Value => ⟨[(9, .val (.int .i64 (10 + (x.1 : Int)))), (4, .val (.int .i64 (pcN b))), (6, .val (.slice va b.length vc)), (1, .loc 0 0), (2, .loc 1 0), (8, .loc 2 0)],
          [some (55, [.int .i64 c, .slice va b.length vc]), some (63, pc parZ (.slice none 0 0) (.slice none 0 0)), some (63, pc (pcPar b) x.2.2 (.slice none 0 0))], x.2.1⟩)
        (fun x => x.1 ≤ u8at b 9 ∧ m.le x.2.1 ∧ Own encP 2 99 m x.2.1 x.2.2 (precsN b x.1)) (fun x => u8at b 9 - x.1) (0, m, .slice none 0 0) ⟨by omega, Mem.le.refl _, Own.nil⟩
        (St.le_mk (by simp [go_sem]) (by simp [go_sem]) (by simp [go_sem, pc, parZ, pcPar]) (Mem.le.refl _)) (fun ⟨k, mk, vk⟩ ⟨hk, hmk, hok⟩ => ?_)
      simp only at hk hmk hok
      have hpn : pcN b = 10 + ub b 9 := by rw [← hlen', ← hl]
      simp -implicitDefEqProofs [go_sem]
      refine wpIf_mk (fun h3 => ?_) (fun h3 => ?_)
      · simp at h3
        simp -implicitDefEqProofs [go_sem]
        refine draw_rule_at _ m [(0, 0), (1, 0), (2, 0), (3, 0), (4, 0), (5, 0), (6, 0), (7, 0), (8, 0), (9, 0), (10, 0), (11, 0), (12, 0), (13, 0), (14, 0), (15, 1), (16, 1), (17, 0), (18, 3)] (by kernel_rfl) (covL_self _) hmk (by simp [go_sem]) ?_
        obtain ⟨q0, b0⟩ := ubAt hb (j := 10 + (k : Int)) (by omega) (by omega)
        rw [show (10 + (k : Int)).toNat = 10 + k by omega] at q0
        obtain ⟨z0, z1⟩ := ub_bd b (10 + k)
        have t0 := tmod_w z0 16
        have t1 := tdiv_w z0 (by omega) (d := 16) (by omega)
        simp -implicitDefEqProofs [go_sem, q0, b0, hb.plain, ub_wrap, t0, t1, pc, hmk]
        refine ⟨⟨by omega, by omega⟩, ?_⟩
        have hcl := precsN_len b k
        refine sem_append (enc := encP) (sz := 2) (e := 99) (T := 58) (m0 := m) (l := precsN b k) (l2 := [precAt b (10 + k)]) rfl rfl tb_elem58 tb_zero99 rfl (by omega) rfl hmk hok (.inl ⟨3, 99, rfl, rfl⟩) (fun _ => rfl)
          (by simp [encP, Value.oneCell']) (by rw [hcl]; simp [maxLen]; omega) (by rw [hcl]; simp; omega) (fun v' m' k1 k2 k3 k4 => ?_)
        obtain ⟨wa, wn, wc, rfl, hwn⟩ := k2.shape3
        have f3 : IntKind.i64.wrap (10 + (k : Int) + 1) = 10 + k + 1 := wrapI (by omega) (by omega)
        simp -implicitDefEqProofs [go_sem, f3]
        refine ⟨k1, ?_⟩
        exact roundK_normal (k + 1, m', _) ⟨by simp only; omega, k1, by simp only; rw [precsN_succ]; exact k2⟩ (St.le_mk (by simp [go_sem]; omega) (by simp [go_sem]) (by simp [go_sem, pc]) (Mem.le.refl _)) (by simp only; omega)
      · simp at h3
        have hkk : k = u8at b 9 := by omega
        subst hkk
        obtain ⟨wa, wn, wc, rfl, hwn⟩ := hok.shape3
        simp -implicitDefEqProofs [go_sem, pc, parZ]
        have := hQ (.slice wa wn wc) mk hmk
        rw [hpc] at this
        exact this hok
end Go.Proofs.YtcidapidlgdacaaGreat
