import Derived.Test.YtcidapidlgdacaaGreatFsT
set_option linter.unusedVariables false
set_option linter.unusedSimpArgs false
namespace Go.Proofs.YtcidapidlgdacaaGreat
open Go.FL
set_option maxRecDepth 10000
def pqN (b : List UInt8) : Int := if 2 ≤ b.length then 2 + 2 * ub b 1 else 2
def stepsN (b : List UInt8) (k : Nat) : List Int := (List.range k).map fun (i : Nat) => getN b (2 + 2 * (i : Int)) 2 + 1
theorem stepsN_succ (b : List UInt8) (k : Nat) : stepsN b (k + 1) = stepsN b k ++ [getN b (2 + 2 * (k : Int)) 2 + 1] := by simp [stepsN, List.range_succ]
theorem stepsN_len (b : List UInt8) (k : Nat) : (stepsN b k).length = k := by simp [stepsN]
structure Qua where
  p : Par
  prec : List Pt
  steps : List Int
  err : Int
def parseQuant (c : Int) (b : List UInt8) (p : Par) (prec : List Pt) : Qua :=
  if framedE c b.length 65443 (pqN b) ≠ 0 then ⟨parZ, [], [], framedE c b.length 65443 (pqN b)⟩ else ⟨{ p with dead := ub b 0 }, prec, stepsN b (u8at b 1), 0⟩
theorem parseQuant_ok (m : Mem) (c : Int) (va : Option Addr) (vn vc : Nat) (b : List UInt8) (hb : Sl enc8 1 m (.slice va vn vc) b) (hbig : b.length ≤ 1099511627776)
    (p : Par) (pa : Option Addr) (pn pk : Nat) (prec : List Pt) (sa : Option Addr) (sn sk : Nat) (steps : List Int) (hp : Sl encP 2 m (.slice pa pn pk) prec) (hs : Sl encI 1 m (.slice sa sn sk) steps) (bp : prec.length ≤ 1099511627776) (bs : steps.length ≤ 1099511627776)
    (Q : Ending → Mem → Prop) (hQ : ∀ vp vs m', m.le m' → Own encP 2 99 m m' vp (parseQuant c b p prec).prec → Own encI 1 3 m m' vs (parseQuant c b p prec).steps → Q (.returned (.tuple #[pv (parseQuant c b p prec).p vp vs, .int .i64 (parseQuant c b p prec).err])) m') :
    CC Tryz.prog 18 [.agg #[.int .i64 c, .slice va vn vc], pv p (.slice pa pn pk) (.slice sa sn sk)] m Q := by
  have hlen := hb.len
  have hvn : vn = b.length := by simpa [lenV] using hlen
  subst hvn
  refine cc_enter Tryz.func18 Tryz.ntmps18 rfl (by kernel_rfl) (by simp) ?_
  simp -implicitDefEqProofs [go_sem, pv, pc]
  obtain ⟨hx0, hx1⟩ := ub_bd b 1
  refine wpIf_join (JE [(6, .val (.int .i64 (pqN b))), (2, .loc 0 0), (3, .loc 1 0), (4, .loc 2 0)] [some (55, [.int .i64 c, .slice va b.length vc]), some (63, pc p (.slice pa pn pk) (.slice sa sn sk)), some (63, pc parZ (.slice none 0 0) (.slice none 0 0))] m) (fun s' hs' => ?_) (fun h1 => ?_) (fun h1 => ?_)
  rotate_left
  · simp at h1
    obtain ⟨r9, a9⟩ := ubAt hb (j := 1) (by omega) (by omega)
    have e1 := ub_wrap b 1
    have e2 : IntKind.i64.wrap (2 * ub b 1) = 2 * ub b 1 := wrapI (by omega) (by omega)
    have e3 : IntKind.i64.wrap (2 + 2 * ub b 1) = 2 + 2 * ub b 1 := wrapI (by omega) (by omega)
    have hp : pqN b = 2 + 2 * ub b 1 := by rw [pqN, if_pos (by omega)]
    simp at r9
    simp -implicitDefEqProofs [go_sem, r9, a9, e1, e2, e3, hb.plain, hp, pc, parZ]
    omega
  · simp at h1
    simp -implicitDefEqProofs [go_sem, pqN, show ¬ 2 ≤ b.length by omega, pc, parZ]
  · obtain ⟨E, L, m'⟩ := s'
    obtain ⟨⟨g6, g2, g3, g4, _⟩, hL, hm⟩ := hs'
    simp only at g6 g2 g3 g4 hL hm
    subst hL; subst hm
    simp -implicitDefEqProofs [go_sem, g6, g2, g3, g4]
    refine wpCall_at (framed_ok m c va b.length vc 65443 (pqN b)) ?_
    simp -implicitDefEqProofs [go_sem, g6, g2, g3, g4]
    refine wpIf_mk (fun h2 => ?_) (fun h2 => ?_)
    · simp at h2
      simp -implicitDefEqProofs [go_sem, g6, g2, g3, g4, pc, parZ]
      have := hQ (.slice none 0 0) (.slice none 0 0) m (Mem.le.refl _)
      rw [parseQuant, if_pos h2] at this
      exact this Own.nil Own.nil
    · simp at h2
      obtain ⟨hc, hl⟩ := framedE_zero h2
      have hlen' : (b.length : Int) = 2 + 2 * ub b 1 := by
        unfold pqN at hl
        split at hl
        · exact hl
        · omega
      have hpc : parseQuant c b p prec = ⟨{ p with dead := ub b 0 }, prec, stepsN b (u8at b 1), 0⟩ := by rw [parseQuant, if_neg (by simpa using h2)]
      simp -implicitDefEqProofs [go_sem, g6, g2, g3, g4, pc, parZ]
      refine clone23_ok m ⟨0, 0, 0, 0⟩ 0 0 none 0 0 [] p pa pn pk prec sa sn sk steps Sl.nil hp hs (by simp) bp bs _ (fun vl vp vs m1 k1 o1 o2 o3 => ⟨_, rfl, ?_⟩)
      obtain ⟨a1, n1, c1, rfl, hn1⟩ := o1.shape3
      obtain ⟨a2, n2, c2, rfl, hn2⟩ := o2.shape3
      obtain ⟨a3, n3, c3, rfl, hn3⟩ := o3.shape3
      obtain ⟨r0, a0⟩ := ubAt (hb.le k1) (j := 0) (by omega) (by omega)
      simp at r0
      simp -implicitDefEqProofs [go_sem, g6, g2, g3, g4, pc, hv, pv, r0, a0, ub_wrap, hb.plain]
      refine ⟨by omega, ?_⟩
      refine loop_rule (fun x : Nat × Mem × Value => ⟨[(10, .val (.int .i64 (2 + 2 * (x.1 : Int)))), (6, .val (.int .i64 (pqN b))), (2, .loc 0 0), (4, .loc 2 0), (9, .loc 4 0)],
          [some (55, [.int .i64 c, .slice va b.length vc]), none, some (63, pc parZ (.slice none 0 0) (.slice none 0 0)), none, some (63, pc { p with dead := ub b 0 } (.slice a2 n2 c2) x.2.2)], x.2.1⟩)
        (fun x => x.1 ≤ u8at b 1 ∧ m1.le x.2.1 ∧ Own encI 1 3 m1 x.2.1 x.2.2 (stepsN b x.1)) (fun x => u8at b 1 - x.1) (0, m1, .slice none 0 0) ⟨by omega, Mem.le.refl _, Own.nil⟩
        (St.le_mk (by simp [go_sem, g6, g2, g3, g4]) (by simp [go_sem]) (by simp [go_sem, pc, parZ]) (Mem.le.refl _)) (fun ⟨k, mk, vk⟩ ⟨hk, hmk, hok⟩ => ?_)
      simp only at hk hmk hok
      have hx9 : ub b 1 = (u8at b 1 : Int) := rfl
      have hpn : pqN b = 2 + 2 * ub b 1 := by rw [← hlen', ← hl]
      simp -implicitDefEqProofs [go_sem]
      refine wpIf_mk (fun h3 => ?_) (fun h3 => ?_)
      · simp at h3
        simp -implicitDefEqProofs [go_sem]
        refine draw_rule_at _ m1 [(0, 0), (1, 0), (2, 0), (3, 0), (4, 0), (5, 1), (6, 0), (7, 1), (8, 1), (9, 0), (10, 3)] (by kernel_rfl) (covL_self _) hmk (by simp [go_sem]) ?_
        simp -implicitDefEqProofs [go_sem, pc, hmk]
        refine wpCall_at (get29_ok mk _ b (2 + 2 * (k : Int)) 2 ((hb.le k1).le hmk) (by omega) (by omega) (by omega) hbig) ?_
        have z0 := getN_ge b (2 + 2 * (k : Int)) 2
        have z1 := getN_lt b (2 + 2 * (k : Int)) 2 (by omega)
        have e1 : IntKind.i64.wrap (getN b (2 + 2 * (k : Int)) 2 + 1) = getN b (2 + 2 * (k : Int)) 2 + 1 := wrapI (by omega) (by omega)
        simp -implicitDefEqProofs [go_sem, pc, hmk, e1]
        have hcl := stepsN_len b k
        refine sem_append (enc := encI) (sz := 1) (e := 3) (T := 23) (m0 := m1) (l := stepsN b k) (l2 := [getN b (2 + 2 * (k : Int)) 2 + 1]) rfl rfl tb_elem23 tb_zero3 rfl (by omega) rfl hmk hok (.inl ⟨5, 3, rfl, rfl⟩) (fun _ => rfl)
          (by simp [encI, Value.oneCell']) (by rw [hcl]; simp [maxLen]; omega) (by rw [hcl]; simp; omega) (fun v' m' k2 o k3 k4 => ?_)
        obtain ⟨wa, wn, wc, rfl, hwn⟩ := o.shape3
        have f3 : IntKind.i64.wrap (2 + 2 * (k : Int) + 2) = 2 + 2 * k + 2 := wrapI (by omega) (by omega)
        simp -implicitDefEqProofs [go_sem, f3]
        refine ⟨k2, ?_⟩
        exact roundK_normal (k + 1, m', _) ⟨by simp only; omega, k2, by simp only; rw [stepsN_succ]; exact o⟩ (St.le_mk (by simp [go_sem]; omega) (by simp [go_sem]) (by simp [go_sem, pc]) (Mem.le.refl _)) (by simp only; omega)
      · simp at h3
        have hkk : k = u8at b 1 := by omega
        subst hkk
        obtain ⟨wa, wn, wc, rfl, hwn⟩ := hok.shape3
        simp -implicitDefEqProofs [go_sem, pc, parZ]
        have := hQ (.slice a2 n2 c2) (.slice wa wn wc) mk (k1.trans hmk)
        rw [hpc] at this
        exact this (o2.le hmk) (hok.base k1)
end Go.Proofs.YtcidapidlgdacaaGreat
