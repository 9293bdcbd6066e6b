import Derived.Test.YtcidapidlgdacaaGreatFsQ
set_option linter.unusedVariables false
set_option linter.unusedSimpArgs false
namespace Go.Proofs.YtcidapidlgdacaaGreat
open Go.FL
set_option maxRecDepth 10000
def u8at (b : List UInt8) (i : Nat) : Nat := ((b[i]?).getD 0).toNat
theorem u8at_lt (b : List UInt8) (i : Nat) : u8at b i < 256 := ((b[i]?).getD 0).toNat_lt
theorem byteAt {m : Mem} {v : Value} {b : List UInt8} (hb : Sl enc8 1 m v b) {j : Int} (h0 : 0 ≤ j) (h1 : j < b.length) :
    rdA m (eltAddr v j 1 0) 1 = some [.int .u8 (u8at b j.toNat)] ∧ (eltAddr v j 1 0).isSome = true := hb.byte' h0 h1
theorem wrap_u8 (b : List UInt8) (i : Nat) : IntKind.i64.wrap (u8at b i : Int) = u8at b i := by have := u8at_lt b i; exact wrapI (by omega) (by omega)
structure Hdr where
  r : R
  tw : Int
  th : Int
  l : List Comp
  err : Int
def compAt (b : List UInt8) (i : Nat) : Comp := ⟨(u8at b i % 128 : Nat) + 1, decide (128 ≤ u8at b i), u8at b (i + 1), u8at b (i + 2)⟩
def compsN (b : List UInt8) (k : Nat) : List Comp := (List.range k).map fun i => compAt b (13 + 3 * i)
theorem compsN_succ (b : List UInt8) (k : Nat) : compsN b (k + 1) = compsN b k ++ [compAt b (13 + 3 * k)] := by simp [compsN, List.range_succ]
theorem compsN_len (b : List UInt8) (k : Nat) : (compsN b k).length = k := by simp [compsN]
def psN (b : List UInt8) : Nat := if 13 ≤ b.length then 13 + 3 * u8at b 12 else 13
def psR (b : List UInt8) : R := ⟨getN b 0 2, getN b 2 2, getN b 4 2, getN b 6 2⟩
def psL (b : List UInt8) : List Comp := compsN b (u8at b 12)
def parseSize (c : Int) (b : List UInt8) : Hdr :=
  if framedE c b.length 65441 (psN b) ≠ 0 then ⟨⟨0, 0, 0, 0⟩, 0, 0, [], framedE c b.length 65441 (psN b)⟩ else
  if hdrE (psR b) (getN b 8 2) (getN b 10 2) (psL b) ≠ 0 then ⟨⟨0, 0, 0, 0⟩, 0, 0, [], hdrE (psR b) (getN b 8 2) (getN b 10 2) (psL b)⟩ else
  ⟨psR b, getN b 8 2, getN b 10 2, psL b, 0⟩
theorem framedE_zero {c : Int} {len : Nat} {code n : Int} (h : framedE c len code n = 0) : c = code ∧ (len : Int) = n := by
  unfold framedE at h
  split at h
  · cases h
  · rename_i h1
    split at h
    · cases h
    · split at h
      · cases h
      · exact ⟨Decidable.not_not.1 h1, by omega⟩
def hcells (r : R) (tw th : Int) (v : Value) : List Value := [.int .i64 r.x0, .int .i64 r.y0, .int .i64 r.x1, .int .i64 r.y1, .int .i64 tw, .int .i64 th, v]
theorem parseSize_ok (m : Mem) (c : Int) (va : Option Addr) (vn vc : Nat) (b : List UInt8) (hb : Sl enc8 1 m (.slice va vn vc) b) (hbig : b.length ≤ 1099511627776)
    (Q : Ending → Mem → Prop) (hQ : ∀ vl m', m.le m' → Own encC 4 96 m m' vl (parseSize c b).l → Q (.returned (.tuple #[hv (parseSize c b).r (parseSize c b).tw (parseSize c b).th vl, .int .i64 (parseSize c b).err])) m') :
    CC Tryz.prog 16 [.agg #[.int .i64 c, .slice va vn vc]] m Q := by
  have hlen := hb.len
  have hvn : vn = b.length := by simpa [lenV] using hlen
  subst hvn
  refine cc_enter Tryz.func16 Tryz.ntmps16 rfl (by kernel_rfl) (by simp) ?_
  simp -implicitDefEqProofs [go_sem]
  have hx := u8at_lt b 12
  refine wpIf_join (JE [(4, .val (.int .i64 (psN b))), (1, .loc 0 0), (2, .loc 1 0)] [some (55, [.int .i64 c, .slice va b.length vc]), some (51, hcells ⟨0, 0, 0, 0⟩ 0 0 (.slice none 0 0))] m) (fun s' hs' => ?_) (fun h1 => ?_) (fun h1 => ?_)
  rotate_left
  · simp at h1
    obtain ⟨r12, a12⟩ := byteAt hb (j := 12) (by omega) (by omega)
    have e1 := wrap_u8 b 12
    have e2 : IntKind.i64.wrap (3 * (u8at b 12 : Int)) = 3 * u8at b 12 := wrapI (by omega) (by omega)
    have e3 : IntKind.i64.wrap (13 + 3 * (u8at b 12 : Int)) = 13 + 3 * u8at b 12 := wrapI (by omega) (by omega)
    simp at r12
    have hp : (psN b : Int) = 13 + 3 * u8at b 12 := by rw [psN, if_pos (by omega)]; omega
    simp -implicitDefEqProofs [go_sem, r12, a12, e1, e2, e3, hb.plain, hp, hcells]
    omega
  · simp at h1
    simp -implicitDefEqProofs [go_sem, psN, show ¬ 13 ≤ b.length by omega, hcells]
  · obtain ⟨E, L, m'⟩ := s'
    obtain ⟨⟨g4, g1, g2, _⟩, hL, hm⟩ := hs'
    simp only at g4 g1 g2 hL hm
    subst hL; subst hm
    simp -implicitDefEqProofs [go_sem, g4, g1, g2]
    refine wpCall_at (framed_ok m c va b.length vc 65441 (psN b)) ?_
    simp -implicitDefEqProofs [go_sem, g4, g1, g2]
    refine wpIf_mk (fun h2 => ?_) (fun h2 => ?_)
    · simp at h2
      simp -implicitDefEqProofs [go_sem, g4, g1, g2, hcells]
      have := hQ (.slice none 0 0) m (Mem.le.refl _)
      rw [parseSize, if_pos h2] at this
      exact this Own.nil
    · simp at h2
      obtain ⟨hc, hl⟩ := framedE_zero h2
      have hl' : b.length = psN b := by omega
      have hge : 13 + 3 * u8at b 12 = psN b := by
        unfold psN at hl' ⊢
        split at hl'
        · rename_i h; rw [if_pos h]
        · omega
      have hlen' : (b.length : Int) = 13 + 3 * u8at b 12 := by omega
      simp -implicitDefEqProofs [go_sem, g4, g1, g2, hcells]
      refine wpCall_at (get29_ok m _ b 0 2 hb (by omega) (by omega) (by omega) hbig) ?_
      simp -implicitDefEqProofs [go_sem]
      refine wpCall_at (get29_ok m _ b 2 2 hb (by omega) (by omega) (by omega) hbig) ?_
      simp -implicitDefEqProofs [go_sem]
      refine wpCall_at (get29_ok m _ b 4 2 hb (by omega) (by omega) (by omega) hbig) ?_
      simp -implicitDefEqProofs [go_sem]
      refine wpCall_at (get29_ok m _ b 6 2 hb (by omega) (by omega) (by omega) hbig) ?_
      simp -implicitDefEqProofs [go_sem]
      refine wpCall_at (get29_ok m _ b 8 2 hb (by omega) (by omega) (by omega) hbig) ?_
      simp -implicitDefEqProofs [go_sem]
      refine wpCall_at (get29_ok m _ b 10 2 hb (by omega) (by omega) (by omega) hbig) ?_
      simp -implicitDefEqProofs [go_sem]
      refine loop_rule (fun x : Nat × Mem × Value => ⟨[(8, .val (.int .i64 (13 + 3 * (x.1 : Int)))), (4, .val (.int .i64 (psN b))), (6, .val (.slice va b.length vc)), (1, .loc 0 0), (2, .loc 1 0), (7, .loc 2 0)],
          [some (55, [.int .i64 c, .slice va b.length vc]), some (51, hcells ⟨0, 0, 0, 0⟩ 0 0 (.slice none 0 0)), some (51, hcells (psR b) (getN b 8 2) (getN b 10 2) x.2.2)], x.2.1⟩)
        (fun x => x.1 ≤ u8at b 12 ∧ m.le x.2.1 ∧ Own encC 4 96 m x.2.1 x.2.2 (compsN b x.1)) (fun x => u8at b 12 - x.1) (0, m, .slice none 0 0) ⟨by omega, Mem.le.refl _, Own.nil⟩
        (St.le_mk (by simp [go_sem, g4, g1, g2]) (by simp [go_sem]) (by simp [go_sem, hcells, psR]) (Mem.le.refl _)) (fun ⟨k, mk, vk⟩ ⟨hk, hmk, hok⟩ => ?_)
      simp only at hk hmk hok
      simp -implicitDefEqProofs [go_sem]
      refine wpIf_mk (fun h3 => ?_) (fun h3 => ?_)
      · simp at h3
        simp -implicitDefEqProofs [go_sem]
        have hb' := hb
        refine draw_rule_at _ m [(0, 0), (1, 0), (2, 0), (3, 0), (4, 0), (5, 0), (6, 0), (7, 0), (8, 0), (9, 0), (10, 0), (11, 0), (12, 0), (13, 0), (14, 0), (15, 0), (16, 0), (17, 0), (18, 0), (19, 0), (20, 0), (21, 0), (22, 0), (23, 0), (24, 0), (25, 0), (26, 0), (27, 1), (28, 1), (29, 0), (30, 3)] (by kernel_rfl) (covL_self _) hmk (by simp [go_sem]) ?_
        have hkk : 13 + 3 * k < 1000 := by omega
        have f1 : IntKind.i64.wrap (13 + 3 * (k : Int) + 1) = 13 + 3 * k + 1 := wrapI (by omega) (by omega)
        have f2 : IntKind.i64.wrap (13 + 3 * (k : Int) + 2) = 13 + 3 * k + 2 := wrapI (by omega) (by omega)
        obtain ⟨r0, a0⟩ := byteAt hb' (j := 13 + 3 * (k : Int)) (by omega) (by omega)
        obtain ⟨r1, a1⟩ := byteAt hb' (j := 13 + 3 * (k : Int) + 1) (by omega) (by omega)
        obtain ⟨r2, a2⟩ := byteAt hb' (j := 13 + 3 * (k : Int) + 2) (by omega) (by omega)
        rw [show (13 + 3 * (k : Int)).toNat = 13 + 3 * k by omega] at r0
        rw [show (13 + 3 * (k : Int) + 1).toNat = 13 + 3 * k + 1 by omega] at r1
        rw [show (13 + 3 * (k : Int) + 2).toNat = 13 + 3 * k + 2 by omega] at r2
        have w0 := wrap_u8 b (13 + 3 * k)
        have w1 := wrap_u8 b (13 + 3 * k + 1)
        have w2 := wrap_u8 b (13 + 3 * k + 2)
        simp -implicitDefEqProofs [go_sem, r0, a0, r1, a1, r2, a2, w0, w1, w2, f1, f2, hb'.plain, hcells, hmk]
        refine ⟨⟨by omega, by omega⟩, ⟨by omega, by omega⟩, ⟨by omega, by omega⟩, ?_⟩
        have hx0 := u8at_lt b (13 + 3 * k)
        have t0 : (u8at b (13 + 3 * k) : Int).tmod 128 = (u8at b (13 + 3 * k) % 128 : Nat) := by rw [Int.tmod_eq_emod_of_nonneg (by omega)]; omega
        have t1 : IntKind.i64.wrap ((u8at b (13 + 3 * k) % 128 : Nat) + 1) = (u8at b (13 + 3 * k) % 128 : Nat) + 1 := wrapI (by omega) (by omega)
        have hcl := compsN_len b k
        rw [t0, t1]
        refine sem_append (enc := encC) (sz := 4) (e := 96) (T := 49) (m0 := m) (l := compsN b k) (l2 := [compAt b (13 + 3 * k)]) rfl rfl tb_elem49 tb_zero96 rfl (by omega) rfl hmk hok (.inl ⟨3, 96, rfl, ?_⟩) (fun _ => rfl)
          (by simp [encC, Value.oneCell']) (by rw [hcl]; simp [maxLen]; omega) (by rw [hcl]; simp; omega) (fun v' m' k1 k2 k3 k4 => ?_)
        · simp [encC, compAt]; omega
        obtain ⟨wa, wn, wc, rfl, hwn⟩ := k2.shape3
        have f3 : IntKind.i64.wrap (13 + 3 * (k : Int) + 3) = 13 + 3 * k + 3 := wrapI (by omega) (by omega)
        simp -implicitDefEqProofs [go_sem, f3]
        refine ⟨k1, ?_⟩
        exact roundK_normal (k + 1, m', _) ⟨by simp only; omega, k1, by simp only; rw [compsN_succ]; exact k2⟩ (St.le_mk (by simp [go_sem]; omega) (by simp [go_sem]) (by simp [go_sem, hcells]) (Mem.le.refl _)) (by simp only; omega)
      · simp at h3
        have hkk : k = u8at b 12 := by omega
        subst hkk
        obtain ⟨wa, wn, wc, rfl, hwn⟩ := hok.shape3
        simp -implicitDefEqProofs [go_sem, hcells]
        have hh := header_ok mk (psR b) (getN b 8 2) (getN b 10 2) (.slice wa wn wc) (psL b) (hok.sl (fun _ => rfl))
        refine wpCall_at hh ?_
        simp -implicitDefEqProofs [go_sem]
        refine wpIf_mk (fun h4 => ?_) (fun h4 => ?_)
        · simp at h4
          simp -implicitDefEqProofs [go_sem]
          have := hQ (.slice none 0 0) mk hmk
          rw [parseSize, if_neg (by simpa using h2), if_pos h4] at this
          exact this Own.nil
        · simp at h4
          simp -implicitDefEqProofs [go_sem]
          have := hQ (.slice wa wn wc) mk hmk
          rw [parseSize, if_neg (by simpa using h2), if_neg (by simpa using h4)] at this
          exact this hok
end Go.Proofs.YtcidapidlgdacaaGreat
