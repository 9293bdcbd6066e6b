/- The facts logic, part F: 'light_ok': an operation that leaves memory alone yields what lightS says. -/
import Derived.Test.YtcidapidlgdacaaGreatFlE
import Derived.Laws.StructEq
import Derived.Laws.BytesString
set_option linter.unusedVariables false
set_option linter.unusedSimpArgs false
namespace Go.FL
section
variable {P : Program} {a : Act} {w : World} {s : St} {lam : Nat → Nat}

theorem run_indexAt_slice {T e : TypeId} {i : TypeInfo} (hu : P.underlying T = some (.slice e)) (hi : P.info? e = some i) (k : IntKind) (j : Int) (ad : Addr) (n c : Nat) (h0 : 0 ≤ j) (h1 : j < n) :
    (Instr.indexAt T (.slice (some ad) n c) (.int k j)).run P w = .ok (.pointer (some (ad.add (j.toNat * i.size)))) w := by
  unfold Instr.indexAt
  simp [asIntOf, run_underlying hu, Result.andThen, run_sizeOf' hi, h0, h1]
theorem run_indexAt_arr {T e : TypeId} {i : TypeInfo} {n : Nat} (hu : P.underlying T = some (.array n e)) (hi : P.info? e = some i) (k : IntKind) (j : Int) (ad : Addr) (h0 : 0 ≤ j) (h1 : j < n) :
    (Instr.indexAt T (.pointer (some ad)) (.int k j)).run P w = .ok (.pointer (some (ad.add (j.toNat * i.size)))) w := by
  unfold Instr.indexAt
  simp [asIntOf, run_underlying hu, Result.andThen, run_sizeOf' hi, h0, h1, Instr.sureAddr]
theorem tfield_ok {S f off sz : Nat} (h : tfield P S f = some (off, sz)) : ∃ fs x i, P.underlying S = some (.struct fs) ∧ fs[f]? = some x ∧ P.info? x.type = some i ∧ x.offset = off ∧ i.size = sz := by
  unfold tfield at h
  split at h
  · rename_i fs hu
    split at h
    · rename_i x hx
      split at h
      · rename_i i hi; cases h; exact ⟨fs, x, i, hu, hx, hi, rfl, rfl⟩
      · cases h
    · cases h
  · cases h
theorem run_fieldAt {S f off sz : Nat} (h : tfield P S f = some (off, sz)) (hz : sz ≠ 0) (ad : Addr) : (Instr.fieldAt S (.pointer (some ad)) f).run P w = .ok (.pointer (some (ad.add off))) w := by
  obtain ⟨fs, x, i, hu, hx, hi, rfl, rfl⟩ := tfield_ok h
  unfold Instr.fieldAt
  simp [run_underlying hu, Result.andThen, hx, Instr.sureAddr, fieldPlace, run_sizeOf' hi, hz]
theorem mkVal_part {T n off : Nat} {ag : Bool} (ht : tinfo P T = some (n, ag)) {cs : Array Value} {v : Value} (hm : mkVal ag ((cs.toList.drop off).take n) = some v) (hle : off + n ≤ cs.size) : (part T cs off).run P w = .ok v w := by
  obtain ⟨i, d, hi, rfl, hd, rfl⟩ := tinfo_ok ht
  unfold part
  rw [Sem.run_bind, run_isAgg' hd]
  unfold mkVal at hm
  cases hag : isAggD d with
  | true =>
    rw [hag] at hm; simp only [if_true] at hm; cases hm
    simp only [Result.andThen, if_true, Sem.run_bind, run_sizeOf' hi, Sem.run_pure]
    congr 2
    apply Array.ext'
    simp [List.drop_take, Array.toList_extract]
  | false =>
    rw [hag] at hm; simp only [Bool.false_eq_true, if_false] at hm
    split at hm
    · rename_i u hl; cases hm
      simp only [Result.andThen, Bool.false_eq_true, if_false]
      have h1 : ((cs.toList.drop off).take i.size)[0]? = some v := by rw [hl]; rfl
      have h2 : 0 < i.size := by
        rcases Nat.eq_zero_or_pos i.size with h0 | h0
        · rw [h0] at hl; simp at hl
        · exact h0
      rw [List.getElem?_take_of_lt h2, List.getElem?_drop] at h1
      have h3 : cs[off]? = some v := by simpa using h1
      simp [h3]
    · cases hm
theorem tftype_ok {S f off n : Nat} {ag : Bool} (h : tftype P S f = some (off, n, ag)) : ∃ fs x, P.underlying S = some (.struct fs) ∧ fs[f]? = some x ∧ x.offset = off ∧ tinfo P x.type = some (n, ag) := by
  unfold tftype at h
  split at h
  · rename_i fs hu
    split at h
    · rename_i x hx
      obtain ⟨i, hi, he⟩ := Option.map_eq_some_iff.1 h
      cases he; exact ⟨fs, x, hu, hx, rfl, hi⟩
    · cases h
  · cases h
theorem movable_run {sv q : SV} {n : Nat} (h : moveSV sv n = some q) (hm : movable sv) : ∃ ad, sv.conc lam = .pointer (some ad) ∧ q.conc lam = .pointer (some (ad.add n)) := moveSV_ok lam h hm
theorem wrap_id (k : IntKind) (n : Int) : k.wrap n = k.wrap n := rfl
theorem array_two {α : Type} {l : Array α} {x y : α} (h : l.toList = [x, y]) : l = #[x, y] := by
  cases l; simp at h; subst h; rfl
theorem array_one {α : Type} {l : Array α} {x : α} (h : l.toList = [x]) : l = #[x] := by
  cases l; simp at h; subst h; rfl
theorem nilCmp_ok {neq : Bool} {x y : SV} {p : Prop} {sv : SV} {T : TypeId} (h : nilCmp (tptr P T) neq x y = some (p, sv)) (hp : p) (X Y : Operand) :
    (do eqGuard (if neq then .neq else .eql) T X Y (x.conc lam) (y.conc lam); binOp (if neq then .neq else .eql) T (x.conc lam) (y.conc lam)).run P w = .ok (sv.conc lam) w := by
  unfold nilCmp at h
  split at h
  · rename_i ht
    have hu : P.underlying T = some (.pointer (P.pointee T)) := by
      unfold tptr at ht; split at ht
      · rename_i e hu; simp [Program.pointee, hu]
      · cases ht
    have key : ∀ q : Option Addr, (do eqGuard (if neq then .neq else .eql) T X Y (.pointer q) (.pointer none); binOp (if neq then .neq else .eql) T (.pointer q) (.pointer none)).run P w = .ok (.bool (if neq then q.isSome else q.isNone)) w := by
      intro q
      cases neq
      · simp [eqGuard, Result.andThen, run_eql_pointer_nil w T q hu]
      · simp [eqGuard, Result.andThen, run_neq_pointer_nil w T q hu]
    split at h
    · split at h
      · rename_i hpx
        cases h
        have fin : ∀ ad : Addr, (do eqGuard (if neq then .neq else .eql) T X Y (.pointer (some ad)) (.pointer none); binOp (if neq then .neq else .eql) T (.pointer (some ad)) (.pointer none)).run P w = .ok (.bool neq) w := fun ad => by
          rw [key (some ad)]; cases neq <;> rfl
        cases x <;> simp only [isPtrSV] at hpx <;> try (cases hpx; done)
        · exact fin _
        · obtain ⟨ad, ha⟩ := Option.isSome_iff_exists.1 hp
          simp only [SV.conc, ha]; exact fin _
        · obtain ⟨ad, ha⟩ := Option.isSome_iff_exists.1 hp
          simp only [SV.conc, ha]; exact fin _
      · split at h
        · cases h
          simp only [SV.conc]; rw [key none]; cases neq <;> rfl
        · cases h
          obtain ⟨b, o, rfl⟩ := hp
          simp only [SV.conc]; rw [key (some _)]; cases neq <;> rfl
        · cases h
    · cases h
  · cases h

theorem eqS_ok {c : Nat} {T : TypeId} (ht : tscal P T = some c) {x y : Value} {q : Prop} {b : Bool} (h : eqS c x y = some (q, b)) (hq : q) (d : Nat) : (Op.equalIn (d + 1) T x y).run P w = .ok b w := by
  unfold tscal at ht
  unfold eqS at h
  split at ht
  · rename_i k hu
    cases ht
    split at h
    · cases h; subst hq; exact run_equalIn_int w d T _ k _ _ hu
    · rename_i h1; cases h1
    · rename_i h1; cases h1
    · cases h
  · rename_i hu
    cases ht
    split at h
    · rename_i h1; cases h1
    · cases h; exact run_equalIn_bool' w d T _ _ hu
    · rename_i h1; cases h1
    · cases h
  · rename_i hu
    cases ht
    split at h
    · rename_i h1; cases h1
    · rename_i h1; cases h1
    · cases h; exact run_equalIn_string w d T _ _ hu
    · cases h
  · cases ht
theorem part_one {T : TypeId} (ht : tinfo P T = some (1, false)) {xs : Array Value} {o : Nat} {x : Value} (hx : xs.toList[o]? = some x) : (part T xs o).run P w = .ok x w := by
  have hlt : o < xs.toList.length := (List.getElem?_eq_some_iff.1 hx).1
  refine mkVal_part ht (v := x) ?_ (by simp at hlt; omega)
  have : (xs.toList.drop o).take 1 = [x] := by
    rw [List.drop_eq_getElem_cons hlt]
    have := (List.getElem?_eq_some_iff.1 hx).2
    simp at this ⊢; exact this
  rw [this]; rfl
theorem eqFields_ok (xs ys : Array Value) (d : Nat) : ∀ {fl : List Field} {l : List (Nat × Nat)} {q : Prop} {b : Bool},
    (fl.mapM fun f => if f.name == "_" then none else match tinfo P f.type, tscal P f.type with
      | some (1, false), some c => some (f.offset, c)
      | _, _ => none) = some l → eqL xs.toList ys.toList l = some (q, b) → q → (Op.eqFields (d + 1) xs ys fl).run P w = .ok b w
  | [], l, q, b, hl, h, hq => by
    simp at hl; subst hl; cases h; simp [Op.eqFields]
  | f :: r, l, q, b, hl, h, hq => by
    simp only [List.mapM_cons, Option.pure_def, Option.bind_eq_bind] at hl
    obtain ⟨x, hx, hl⟩ := Option.bind_eq_some_iff.1 hl
    obtain ⟨y, hy, hl⟩ := Option.bind_eq_some_iff.1 hl
    cases hl
    split at hx
    · cases hx
    · rename_i hn
      split at hx
      · rename_i c hi hc
        cases hx
        simp only [eqL] at h
        split at h
        · rename_i xv yv hxv hyv
          split at h
          · rename_i e he
            obtain ⟨t, ht, h⟩ := Option.map_eq_some_iff.1 h
            cases h
            have h1 := eqS_ok (P := P) (w := w) hc (q := e.1) (b := e.2) he hq.1 d
            have h2 := eqFields_ok xs ys d (fl := r) hy (q := t.1) (b := t.2) ht hq.2
            have hn' : f.name ≠ "_" := by simpa using hn
            simp only [Op.eqFields, if_pos hn', Sem.run_bind, part_one hi hxv, part_one hi hyv, Result.andThen_ok, h1]
            cases he2 : e.2 with
            | true => simp [h2]
            | false => simp
          · cases h
        · cases h
      · cases hx
theorem eqV_ok {op : BinOp} {T : TypeId} {x y : Value} {q : Prop} {v : Value} (h : eqV P op T x y = some (q, v)) (hq : q) (X Y : Operand) :
    (do eqGuard op T X Y x y; binOp op T x y).run P w = .ok v w := by
  unfold eqV at h
  split at h
  · rename_i a b
    split at h
    · rename_i hs
      obtain ⟨r, hr, he⟩ := Option.map_eq_some_iff.1 h
      cases he
      have hu : P.underlying T = some .bool := by
        unfold tscal at hs; split at hs <;> first | (cases hs; done) | assumption
      have hg : (eqGuard op T X Y (.bool a) (.bool b)).run P w = .ok () w := by simp [eqGuard]
      have he := run_equalIn_bool' (P := P) w 9999 T a b hu
      unfold neqB at hr
      split at hr <;> cases hr
      · rw [Sem.run_bind, hg]; simp only [Result.andThen_ok, binOp, Op.equal, Op.maxDepth, Sem.run_bind, he, Sem.run_pure]
      · rw [Sem.run_bind, hg]; simp only [Result.andThen_ok, binOp, Op.equal, Op.maxDepth, Sem.run_bind, he, Sem.run_pure]
    · cases h
  · rename_i xs ys
    split at h
    · rename_i l hl
      split at h
      · rename_i e he
        obtain ⟨r, hr, hx⟩ := Option.map_eq_some_iff.1 h
        cases hx
        unfold teq at hl
        split at hl
        · rename_i fs hu
          split at hl
          · cases hl
          · rename_i hc
            simp only [Bool.or_eq_true, not_or, Bool.not_eq_true] at hc
            have hfs : P.fieldsOf T = fs := by simp [Program.fieldsOf, hu]
            have hu' : P.underlying T = some (.struct (P.fieldsOf T)) := by rw [hfs]; exact hu
            have h1 := eqFields_ok (P := P) (w := w) xs ys 9998 hl (q := e.1) (b := e.2) he hq
            have h2 := run_equalIn_struct (P := P) w 9999 T xs ys hu' hc.1
            rw [hfs, h1] at h2
            have hg := run_eqGuard_agg (P := P) w op T X Y xs ys hc.2
            rw [Sem.run_bind, hg]
            unfold neqB at hr
            split at hr <;> cases hr
            · simp only [Result.andThen_ok, run_eql_struct, h2]
            · simp only [Result.andThen_ok, run_neq_struct, h2]
        · cases hl
      · cases h
    · cases h
  · cases h
theorem u8s_ok : ∀ {cs : List Value} {l : List UInt8}, u8s cs = some l → ∃ ns : List Int, cs = ns.map (Value.int .u8) ∧ l = ns.map fun n => UInt8.ofNat n.toNat
  | [], l, h => by cases h; exact ⟨[], rfl, rfl⟩
  | v :: r, l, h => by
    unfold u8s at h
    split at h
    · rename_i h0; cases h0
    · rename_i n r' h0
      cases h0
      obtain ⟨t, ht, he⟩ := Option.map_eq_some_iff.1 h
      cases he
      obtain ⟨ns, h1, h2⟩ := u8s_ok ht
      exact ⟨n :: ns, by simp [h1], by simp [h2]⟩
    · cases h
theorem push_all : ∀ (l : List UInt8) (b : ByteArray), l.foldl (fun r x => r.push x) b = ⟨b.data ++ l.toArray⟩
  | [], b => by simp
  | x :: r, b => by
    rw [List.foldl_cons, push_all r]
    show ByteArray.mk ((b.data.push x) ++ r.toArray) = _
    congr 1
    apply Array.ext'; simp
theorem strV_ok {m : Mem} (hs : Sat w m) {v r : Value} (h : strV m v = some r) : (Conv.bytesToString v).run P w = .ok r w := by
  unfold strV at h
  split at h
  · cases h; simp [Conv.bytesToString]
  · rename_i a n c
    split at h
    · rename_i hsp
      split at h
      · rename_i cs hcs
        obtain ⟨l, hl, he⟩ := Option.map_eq_some_iff.1 h
        cases he
        obtain ⟨ns, rfl, rfl⟩ := u8s_ok hl
        have h23 : (ns.map (Value.int .u8)).length = n ∧ ∀ j v, (ns.map (Value.int .u8))[j]? = some v → w.cell? (a.add j) = some v := by
          rcases Nat.eq_zero_or_pos n with h0 | h0
          · subst h0
            have := (Mem.rd_get hcs).1
            exact ⟨this, fun j v hj => by rw [List.eq_nil_of_length_eq_zero this] at hj; cases hj⟩
          · obtain ⟨ad, h1, h2, h3⟩ := rdA_ok (s := ⟨[], [], m⟩) hs (A := some a) (n := n) (by exact hcs) (fun a' ha => by cases ha; exact hsp.resolve_left (by omega))
            cases h1; exact ⟨h2, h3⟩
        obtain ⟨h2, h3⟩ := h23
        have hload := run_loadCells_list (P := P) (w := w) a _ h3
        rw [h2] at hload
        rw [run_bytesToString w a n c ns hload]
        congr 2
        have := push_all (ns.map fun n => UInt8.ofNat n.toNat) ByteArray.empty
        rw [List.foldl_map] at this
        rw [this]
        congr 1
        apply Array.ext'; simp [ByteArray.empty, ByteArray.emptyWithCapacity]
        rfl
      · cases h
    · cases h
  · cases h
theorem bnd_ok (h : Rd a w s lam) {x : Option Operand} {d : Int} {k : Int → Option (Prop × SV)} {p : Prop} {sv : SV} (hl : bnd s.E x d k = some (p, sv)) (hp : p) :
    ∃ j q, (x = none ∧ j = d ∨ ∃ o kd, x = some o ∧ a.eval o = .int kd j) ∧ k j = some (q, sv) ∧ q := by
  unfold bnd at hl
  split at hl
  · exact ⟨d, p, .inl ⟨rfl, rfl⟩, hl, hp⟩
  · rename_i o
    obtain ⟨q, h1, h2⟩ := ov_ok h hl hp
    split at h1
    · rename_i kd j hj; exact ⟨j, q, .inr ⟨o, kd, rfl, hj⟩, h1, h2⟩
    · cases h1

theorem light_call (h : Rd a w s lam) {dst : Option Tmp} {ty : TypeId} {pos : String} {after : Array Edge} {guard : Option (Nat × Bool)} {c : Call} {p : Prop} {sv : SV} (hl : lightS P s (.call c) = some (p, sv)) (hp : p) :
    (execOp a.eval ⟨dst, .call c, ty, pos, after, guard⟩).run P w = .ok (.value (sv.conc lam)) w := by
  obtain ⟨callee, args, argTypes⟩ := c
  cases callee with
  | value f => cases hl
  | invoke r n => cases hl
  | builtin b =>
    have base : ∀ r : Value, (builtin b argTypes ty (Array.map (fun | .const _ => true | _ => false) args) (args.map a.eval)).run P w = .ok (.value r) w → r = sv.conc lam →
        (execOp a.eval ⟨dst, .call { callee := .builtin b, args := args, argTypes := argTypes }, ty, pos, after, guard⟩).run P w = .ok (.value (sv.conc lam)) w := by
      intro r hr he
      subst he
      simp only [execOp, resolve, Sem.run_bind, Sem.run_pure, Result.andThen_ok, invoke]
      exact hr
    cases b <;> simp only [lightS] at hl <;> try (cases hl; done)
    case len =>
      split at hl
      · rename_i x T hargs hT
        have e1 := array_one hargs; have e2 := array_one hT; subst e1; subst e2
        split at hl
        · rename_i hT'
          obtain ⟨e, hu⟩ : ∃ e, P.underlying T = some (.slice e) := by
            unfold tslice at hT'; split at hT'
            · rename_i e hu; exact ⟨e, hu⟩
            · cases hT'
          obtain ⟨sx, q, hx, h1, h2⟩ := o1_ok h hl hp
          split at h1
          · rename_i v
            obtain ⟨n, hn, he⟩ := Option.map_eq_some_iff.1 h1
            cases he
            refine base (.int .i64 n) ?_ rfl
            have hx' : a.eval x = v := hx
            unfold lenV at hn; split at hn
            · cases hn
              simp [builtin, Builtin.len_, hx', run_underlying hu, Result.andThen, goInt]
            · cases hn
          · rename_i k n
            cases h1
            refine base (.int .i64 n) ?_ rfl
            have hx' : a.eval x = .slice (some ⟨lam k, 0, none⟩) n n := hx
            simp [builtin, Builtin.len_, hx', run_underlying hu, Result.andThen, goInt]
          · cases h1
        · split at hl
          · rename_i hT'
            have hu : P.underlying T = some .string := by
              unfold tstr at hT'; split at hT'
              · assumption
              · cases hT'
            obtain ⟨q, h1, h2⟩ := ov_ok h hl hp
            obtain ⟨n, hn, he⟩ := Option.map_eq_some_iff.1 h1
            cases he
            refine base (.int .i64 n) ?_ rfl
            unfold lenS at hn; split at hn
            · rename_i b hb; cases hn
              simp [builtin, Builtin.len_, hb, run_underlying hu, Result.andThen, goInt]
            · cases hn
          · cases hl
      · cases hl
    case min =>
      split at hl
      · rename_i x y hargs
        have e1 := array_two hargs; subst e1
        obtain ⟨q, h1, h2⟩ := ov_ok h hl hp
        obtain ⟨q', h3, h4⟩ := ov_ok h h1 h2
        obtain ⟨r, hr, he⟩ := Option.map_eq_some_iff.1 h3
        cases he
        refine base r ?_ rfl
        unfold minV at hr
        split at hr
        · rename_i k i1 k' i2 e1 e2
          split at hr
          · rename_i hk; cases hr; subst hk
            simp [builtin, Builtin.min_, e1, e2, Builtin.min2, Result.andThen]
            omega
          · cases hr
        · cases hr
      · cases hl
    case max =>
      split at hl
      · rename_i x y hargs
        have e1 := array_two hargs; subst e1
        obtain ⟨q, h1, h2⟩ := ov_ok h hl hp
        obtain ⟨q', h3, h4⟩ := ov_ok h h1 h2
        obtain ⟨r, hr, he⟩ := Option.map_eq_some_iff.1 h3
        cases he
        refine base r ?_ rfl
        unfold maxV at hr
        split at hr
        · rename_i k i1 k' i2 e1 e2
          split at hr
          · rename_i hk; cases hr; subst hk
            simp [builtin, Builtin.max_, e1, e2, Builtin.max2, Result.andThen]
            omega
          · cases hr
        · cases hr
      · cases hl

theorem light_ok (h : Rd a w s lam) {o : Oper} {p : Prop} {sv : SV} (hl : lightS P s o.op = some (p, sv)) (hp : p) : (execOp a.eval o).run P w = .ok (.value (sv.conc lam)) w := by
  obtain ⟨dst, op, ty, pos, after, guard⟩ := o
  simp only at hl
  cases op
  case call c => exact light_call h (c := c) hl hp
  all_goals simp only [lightS] at hl
  all_goals try (cases hl; done)
  case move x =>
    split at hl
    · rename_i sx hx; cases hl; simp [execOp, opr_ok h hx]
    · cases hl
  case assign x =>
    split at hl
    · rename_i sx hx; cases hl; simp [execOp, opr_ok h hx]
    · cases hl
  case pick c x y =>
    obtain ⟨q, h1, h2⟩ := ov_ok h hl hp
    split at h1
    · rename_i cb hc
      split at h1
      · rename_i sa sb ha hb
        split at h1
        · rename_i va vb h3 h4
          cases h1
          have ea := opr_ok h ha; have eb := opr_ok h hb
          cases cb with
          | true => simp [execOp, hc, asBool, pickV_eq, SV.conc, ea, SV.conc_str (h2.1 rfl), h3]
          | false => simp [execOp, hc, asBool, pickV_eq, SV.conc, eb, SV.conc_str (h2.2 rfl), h4]
        · cases h1
      · cases h1
    · cases h1
  case unOp op T x =>
    obtain ⟨q, h1, h2⟩ := ov_ok h hl hp
    obtain ⟨r, hr, he⟩ := Option.map_eq_some_iff.1 h1
    cases he
    simp [execOp, unV_ok hr, Result.andThen, SV.conc]
  case convert S T x =>
    split at hl
    · rename_i k hS hT
      obtain ⟨d, hS⟩ := Option.isSome_iff_exists.1 hS
      obtain ⟨q, h1, h2⟩ := ov_ok h hl hp
      split at h1
      · rename_i k' n hx
        cases h1
        unfold tint at hT
        split at hT
        · rename_i k2 hu; cases hT
          simp [execOp, hx, convert, run_underlying hS, run_underlying hu, Result.andThen, Conv.intToInt, SV.conc]
        · cases hT
      · cases h1
    · rename_i hS hT
      split at hl
      · rename_i hb
        simp only [Bool.and_eq_true] at hb
        obtain ⟨q, h1, h2⟩ := ov_ok h hl hp
        obtain ⟨r, hr, he⟩ := Option.map_eq_some_iff.1 h1
        cases he
        obtain ⟨e, hu, hue⟩ : ∃ e, P.underlying S = some (.slice e) ∧ P.underlying e = some (.int .u8) := by
          have hb1 := hb.1
          unfold tbytes at hb1; split at hb1
          · rename_i e hu
            split at hb1
            · rename_i hue; exact ⟨e, hu, hue⟩
            · cases hb1
          · cases hb1
        have hu2 : P.underlying T = some .string := by
          have hb2 := hb.2
          unfold tstr at hb2; split at hb2
          · assumption
          · cases hb2
        have hrun := strV_ok (P := P) h.sat hr
        unfold strV at hr
        simp only [execOp]
        split at hr
        · rename_i n c hx
          rw [hx] at hrun ⊢
          rw [Sem.run_bind, run_convert_bytes_string w S T e none n c hu hue hu2, hrun]; simp [Result.andThen, SV.conc]
        · rename_i ad n c hx
          rw [hx] at hrun ⊢
          rw [Sem.run_bind, run_convert_bytes_string w S T e (some ad) n c hu hue hu2, hrun]; simp [Result.andThen, SV.conc]
        · cases hr
      · cases hl
    · cases hl
  case slice T x lo hi mx =>
    cases mx with
    | some mx => cases hl
    | none =>
    simp only [lightS] at hl
    split at hl
    · rename_i e sz by' he
      obtain ⟨ie, hu, hie, rfl, _⟩ := telem_ok he
      obtain ⟨q, h1, h2⟩ := ov_ok h hl hp
      split at h1
      · rename_i n c hn hc
        obtain ⟨jl, q', hlo, h3, h4⟩ := bnd_ok h h1 h2
        obtain ⟨jh, q'', hhi, h5, h6⟩ := bnd_ok h h3 h4
        cases h5
        obtain ⟨A, hx⟩ : ∃ A, a.eval x = .slice A n c := by
          cases hv : a.eval x <;> simp only [hv, lenV, capV] at hn hc <;> first | (cases hn; done) | skip
          cases hn; cases hc; exact ⟨_, rfl⟩
        obtain ⟨hA, hB, hC⟩ := h6
        have hel : P.elem T = e := by simp [Program.elem, hu]
        have hu' : P.underlying T = some (.slice (P.elem T)) := by rw [hel]; exact hu
        have hsz : (sizeOf (P.elem T)).run P w = .ok ie.size w := by rw [hel]; exact run_sizeOf' hie w
        simp only [execOp, hx]
        rw [Sem.run_bind, run_sliceAt_slice (P := P) w T _ _ _ _ hu']
        rcases hlo with ⟨rfl, rfl⟩ | ⟨ol, kl, rfl, el⟩ <;> rcases hhi with ⟨rfl, rfl⟩ | ⟨oh, kh, rfl, eh⟩
        · simp only [Option.map_none]
          rw [run_slice_all (P := P) w T A n c hu', hsz]; simp [Result.andThen, sliced, SV.conc, subV]
        · simp only [Option.map_none, Option.map_some, eh]
          rw [run_slice_h (P := P) w T A n c hu' kh jh hB hC, hsz]; simp [Result.andThen, sliced, SV.conc, subV]
        · simp only [Option.map_none, Option.map_some, el]
          rw [run_slice_l (P := P) w T A n c hu' kl jl hA hB, hsz]; simp [Result.andThen, sliced, SV.conc, subV]
        · simp only [Option.map_some, Option.map_none, el, eh]
          rw [run_slice_lh (P := P) w T A n c hu' kl kh jl jh hA hB hC, hsz]; simp [Result.andThen, sliced, SV.conc, subV]
      · cases h1
    · cases hl
  case extract x i =>
    obtain ⟨q, h1, h2⟩ := ov_ok h hl hp
    split at h1
    · rename_i vs hx
      obtain ⟨r, hr, he⟩ := Option.map_eq_some_iff.1 h1
      cases he
      simp [execOp, hx, Instr.extract, hr, Result.andThen, SV.conc]
    · cases h1
  case nilCheck x =>
    obtain ⟨sx, q, hx, h1, h2⟩ := o1_ok h hl hp
    simp only [execOp, hx]
    cases sx with
    | val v =>
      cases h1
      simp only [SV.conc]
      cases v <;> simp_all [notNil]
      · rename_i o; cases o <;> simp_all [notNil]
      · rename_i f _ _; cases f <;> simp_all [notNil]
    | loc k o => cases h1; simp [SV.conc]
    | elt v i sz o => cases h1; obtain ⟨ad, ha⟩ := Option.isSome_iff_exists.1 h2; simp [SV.conc, ha]
    | ptr v o => cases h1; obtain ⟨ad, ha⟩ := Option.isSome_iff_exists.1 h2; simp [SV.conc, ha]
    | lsl k n => cases h1; exact h2.elim
    | gd b sv => cases h1; exact h2.elim
  case fieldAddr S x f =>
    split at hl
    · rename_i off sz hf
      obtain ⟨sx, q, hx, h1, h2⟩ := o1_ok h hl hp
      obtain ⟨r, hr, he⟩ := Option.map_eq_some_iff.1 h1
      cases he
      obtain ⟨ad, h3, h4⟩ := movable_run (lam := lam) hr h2.2
      simp [execOp, hx, h3, run_fieldAt hf h2.1, Result.andThen, h4]
    · cases hl
  case indexAddr T x i =>
    obtain ⟨q, h1, h2⟩ := ov_ok h hl hp
    split at h1
    · rename_i k j hj
      split at h1
      · rename_i e sz by' he
        obtain ⟨ie, hu, hi, rfl, _⟩ := telem_ok he
        obtain ⟨sx, q', hx, h3, h4⟩ := o1_ok h h1 h2
        simp only [idxSV] at h3
        split at h3
        · rename_i k' n; cases h3
          simp only [execOp, hx, hj, SV.conc]
          rw [Sem.run_bind, run_indexAt_slice hu hi k j _ n n h4.1 h4.2]
          simp [Result.andThen, Addr.add, SV.conc]
          intro h0; exact h0.symm
        · rename_i v
          split at h3
          · rename_i n hn; cases h3
            obtain ⟨hb, hs, hsome⟩ := h4
            obtain ⟨ad, ha⟩ := Option.isSome_iff_exists.1 hsome
            unfold eltAddr at ha
            split at ha
            · rename_i a' n' c'
              cases ha
              simp only [lenV, Option.some.injEq] at hn; subst hn
              have hsp := hs a' _ c' rfl (by omega)
              simp only [execOp, hx, hj, SV.conc]
              rw [Sem.run_bind, run_indexAt_slice hu hi k j _ _ _ hb.1 hb.2]
              obtain ⟨ab, ao, asp⟩ := a'
              simp only at hsp; subst hsp
              simp [Result.andThen, Addr.add, SV.conc, eltAddr]
            · cases ha
          · cases h3
        · cases h3
      · split at h1
        · rename_i n e sz ht
          obtain ⟨ie, hu, hi, rfl⟩ := tarr_ok ht
          obtain ⟨sx, q', hx, h3, h4⟩ := o1_ok h h1 h2
          obtain ⟨r, hr, he⟩ := Option.map_eq_some_iff.1 h3
          cases he
          obtain ⟨ad, h5, h6⟩ := movable_run (lam := lam) hr h4.2
          simp only [execOp, hx, hj, h5]
          rw [Sem.run_bind, run_indexAt_arr hu hi k j _ h4.1.1 h4.1.2]
          simp [Result.andThen, h6]
        · cases h1
    · cases h1
  case field T x f =>
    split at hl
    · rename_i off n ag hf
      obtain ⟨q, h1, h2⟩ := ov_ok h hl hp
      obtain ⟨fs, fx, hu, hfx, rfl, ht⟩ := tftype_ok hf
      split at h1
      · rename_i cs hx
        split at h1
        · rename_i v hm; cases h1
          simp [execOp, hx, Instr.field, run_underlying hu, Result.andThen, hfx, asAgg, mkVal_part ht hm h2, SV.conc]
        · cases h1
      · cases h1
    · cases hl
  case load T x =>
    split at hl
    · rename_i n ag ht
      obtain ⟨sx, q, hx, h1, h2⟩ := o1_ok h hl hp
      split at h1
      · rename_i cs hr
        obtain ⟨v, hv, he⟩ := Option.map_eq_some_iff.1 h1
        cases he
        obtain ⟨ad, h3, h4, h5⟩ := rdSV_ok h hr h2
        simp [execOp, hx, h3, Instr.loadAt, Instr.sureAddr, run_loadVar_cells ht hv h4 ad h5, Result.andThen, SV.conc]
      · cases h1
    · cases hl
  case binOp op T x y T' =>
    obtain ⟨sx, q, hx, h1, h2⟩ := o1_ok h hl hp
    obtain ⟨sy, q', hy, h3, h4⟩ := o1_ok h h1 h2
    have fin : ∀ {op' : BinOp} {neq : Bool}, op' = (if neq then .neq else .eql) → nilCmp (tptr P T) neq sx sy = some (q', sv) →
        (do eqGuard op' T x y (sx.conc lam) (sy.conc lam); binOp op' T (sx.conc lam) (sy.conc lam)).run P w = .ok (sv.conc lam) w := by
      intro op' neq he hn; subst he; exact nilCmp_ok hn h4 x y
    have fin2 : nilCmp (tptr P T) false sx sy = some (q', sv) ∧ op = .eql ∨ nilCmp (tptr P T) true sx sy = some (q', sv) ∧ op = .neq → (execOp a.eval ⟨dst, .binOp op T x y T', ty, pos, after, guard⟩).run P w = .ok (.value (sv.conc lam)) w := by
      rintro (⟨hn, rfl⟩ | ⟨hn, rfl⟩)
      · have := fin (op' := .eql) (neq := false) rfl hn
        rw [← hx, ← hy] at this
        simp only [execOp]; rw [Sem.run_bind, this]; rfl
      · have := fin (op' := .neq) (neq := true) rfl hn
        rw [← hx, ← hy] at this
        simp only [execOp]; rw [Sem.run_bind, this]; rfl
    split at h3
    · rename_i v u
      split at h3
      · rename_i r hr
        cases h3
        have hb := binV_ok (P := P) (T := T) hr h4 w
        have hg : (eqGuard op T x y v u).run P w = .ok () w := by
          unfold binV at hr
          split at hr
          · simp [eqGuard]
          · simp [eqGuard]
          · cases hr
        simp only [execOp, hx, hy, SV.conc]
        rw [Sem.run_bind, Sem.run_bind, hg]
        simp [Result.andThen, hb]
      · split at h3
        · rename_i r hr
          cases h3
          have := eqV_ok (P := P) (w := w) hr h4 x y
          simp only [execOp, hx, hy, SV.conc]
          rw [Sem.run_bind, this]; rfl
        · split at h3
          · exact fin2 (.inl ⟨h3, rfl⟩)
          · exact fin2 (.inr ⟨h3, rfl⟩)
          · cases h3
    · split at h3
      · exact fin2 (.inl ⟨h3, rfl⟩)
      · exact fin2 (.inr ⟨h3, rfl⟩)
      · cases h3
  case index T x i =>
    obtain ⟨q, h1, h2⟩ := ov_ok h hl hp
    split at h1
    · rename_i k j hj
      obtain ⟨q', h3, h4⟩ := ov_ok h h1 h2
      split at h3
      · rename_i b hx
        split at h3
        · rename_i ht; cases h3
          have hu : P.underlying T = some .string := by
            unfold tstr at ht; split at ht
            · assumption
            · cases ht
          have hlt : j.toNat < b.size := by omega
          simp only [execOp, hx, hj]
          rw [Sem.run_bind]
          unfold Instr.index
          have hg : sbyte b j.toNat = (b[j.toNat].toNat : Int) := by
            unfold sbyte
            have hlt' : j.toNat < b.data.toList.length := by rw [Array.length_toList]; exact hlt
            rw [List.getD_eq_getElem?_getD, List.getElem?_eq_getElem hlt']
            rfl
          simp [asIntOf, run_underlying hu, Result.andThen, h4.1, hlt, SV.conc, hg]
        · cases h3
      · rename_i cs hx
        split at h3
        · rename_i n e sz ht
          split at h3
          · rename_i sz' ag hi
            split at h3
            · rename_i v hm; cases h3
              obtain ⟨ie, hu, hie, rfl⟩ := tarr_ok ht
              simp only [execOp, hx, hj]
              rw [Sem.run_bind]
              unfold Instr.index
              have hb : 0 ≤ j ∧ j < (n : Int) := h4.1
              simp [asIntOf, run_underlying hu, Result.andThen, hb, run_sizeOf' hie, mkVal_part hi hm h4.2, SV.conc]
            · cases h3
          · cases h3
        · cases h3
      · cases h3
    · cases h1
  case build T parts =>
    split at hl
    · rename_i q vs hv
      obtain ⟨v, hb, he⟩ := Option.map_eq_some_iff.1 hl
      cases he
      have hvs := vals_ok h hv hp
      have hpa : (Array.map (fun (x : Nat × Operand) => match x with | (i, x) => (i, a.eval x)) parts) = ((parts.toList.map (·.1)).zip vs).toArray := by
        apply Array.ext'
        rw [Array.toList_map, ← hvs]
        simp only [List.map_map]
        generalize parts.toList = l
        induction l with
        | nil => rfl
        | cons x r ih => simp [ih]
      simp only [execOp]
      rw [hpa, Sem.run_bind, buildV_ok hb]
      simp [Result.andThen, SV.conc]
    · cases hl
  case makeFunc fn first capt =>
    split at hl
    · rename_i q vs q' us hv hu
      cases hl
      have h1 := vals_ok h hv hp.1
      have h2 := vals_ok h hu hp.2
      have e1 : Array.map a.eval first = vs.toArray := by apply Array.ext'; simp [h1]
      have e2 : Array.map a.eval capt = us.toArray := by apply Array.ext'; simp [h2]
      simp [execOp, e1, e2, Instr.makeFunc, Result.andThen, SV.conc]
    · cases hl
end
end Go.FL
