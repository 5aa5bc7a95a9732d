/- Part 3 of the proof of BackSums: The operations: arithmetic, comparisons, conversions. The operations: variables, addresses, loads, slices that are read, strings. The operations: loads, addresses of fields and elements, slices and strings that are read. No conditions but those that each theorem names. -/
import Derived.Test.YthmecihkgdaffaaGreatDoorP02
import Derived.Laws.BytesArg
namespace Go.X
open Go
variable {cx : Cx} {g : Lk} {o : Oper} {e : Eff}

theorem bits_pos (k : IntKind) : (0 : Int) < 2 ^ k.bits := by cases k <;> decide
theorem wrap_uns {k : IntKind} (h : k.signed = false) (n : Int) : k.wrap n = wr k n := by
  unfold IntKind.wrap wr
  simp [h]
theorem wrap_in {k : IntKind} {n : Int} (h : inR k n) : k.wrap n = n := by
  unfold inR at h
  cases k <;> simp [IntKind.wrap, IntKind.min, IntKind.max, IntKind.bits, IntKind.signed] at h ⊢ <;> (try split) <;> omega
theorem arith_val {k : IntKind} {n : Int} (h : (arith k n).2) : k.wrap n = (arith k n).1 := by
  unfold arith at h ⊢
  cases hs : k.signed with
  | true => rw [hs] at h; exact wrap_in h
  | false => exact wrap_uns hs n
theorem eqGuard_run (op : BinOp) (t : TypeId) (x y : Operand) (a b : Value) (w : World) (ha : match a with | .int .. | .string _ | .bool _ => True | _ => False) : (eqGuard op t x y a b).run cx.P w = .ok () w := by
  unfold eqGuard
  cases a <;> first | exact ha.elim | skip
  all_goals (cases op <;> simp [pure])

theorem binI_run {op : BinOp} {k : IntKind} {x y : Int} {v : Value} {p : Prop} (h : binI op k x y = some (v, p)) (hp : p) (t : TypeId) (w : World) :
    (binOp op t (.int k x) (.int k y)).run cx.P w = .ok v w ∧ v.oneCell' = true := by
  cases op with
  | add => simp only [binI, Option.some.injEq, Prod.mk.injEq] at h; obtain ⟨rfl, rfl⟩ := h; simp [binOp, Op.intArith, arith_val hp, Value.oneCell']
  | sub => simp only [binI, Option.some.injEq, Prod.mk.injEq] at h; obtain ⟨rfl, rfl⟩ := h; simp [binOp, Op.intArith, arith_val hp, Value.oneCell']
  | mul => simp only [binI, Option.some.injEq, Prod.mk.injEq] at h; obtain ⟨rfl, rfl⟩ := h; simp [binOp, Op.intArith, arith_val hp, Value.oneCell']
  | quo =>
    cases hs : k.signed with
    | true =>
      simp only [binI, hs, cond_true, Option.some.injEq, Prod.mk.injEq] at h; obtain ⟨rfl, rfl⟩ := h
      simp [binOp, Op.intDiv, hp.1, wrap_in hp.2, Value.oneCell']
    | false =>
      simp only [binI, hs, cond_false, Option.some.injEq, Prod.mk.injEq] at h; obtain ⟨rfl, rfl⟩ := h
      obtain ⟨h0, h1, h2⟩ := hp
      have hy : y ≠ 0 := by omega
      have ht : x.tdiv y = x / y := Int.tdiv_eq_ediv_of_nonneg h0
      have hr : inR k (x / y) := by
        have h3 := Int.ediv_nonneg h0 (Int.le_of_lt h1)
        have h4 : x / y ≤ x := Int.ediv_le_self y h0
        unfold inR at h2 ⊢
        have : k.min ≤ 0 := by cases k <;> decide
        omega
      simp [binOp, Op.intDiv, hy, ht, wrap_in hr, Value.oneCell']
  | rem =>
    cases hs : k.signed with
    | true =>
      simp only [binI, hs, cond_true, Option.some.injEq, Prod.mk.injEq] at h; obtain ⟨rfl, rfl⟩ := h
      have hp' : y ≠ 0 := hp
      simp [binOp, Op.intDiv, hp', Value.oneCell']
    | false =>
      simp only [binI, hs, cond_false, Option.some.injEq, Prod.mk.injEq] at h; obtain ⟨rfl, rfl⟩ := h
      obtain ⟨h0, h1⟩ := hp
      have hy : y ≠ 0 := by omega
      have ht : x.tmod y = x % y := Int.tmod_eq_emod_of_nonneg h0
      simp [binOp, Op.intDiv, hy, ht, Value.oneCell']
  | and => simp only [binI, Option.some.injEq, Prod.mk.injEq] at h; obtain ⟨rfl, rfl⟩ := h; simp [binOp, Op.intBits, Value.oneCell']
  | or => simp only [binI, Option.some.injEq, Prod.mk.injEq] at h; obtain ⟨rfl, rfl⟩ := h; simp [binOp, Op.intBits, Value.oneCell']
  | xor => simp only [binI, Option.some.injEq, Prod.mk.injEq] at h; obtain ⟨rfl, rfl⟩ := h; simp [binOp, Op.intBits, Value.oneCell']
  | andNot => simp only [binI, Option.some.injEq, Prod.mk.injEq] at h; obtain ⟨rfl, rfl⟩ := h; simp [binOp, Op.intBits, Value.oneCell']
  | eql => simp only [binI, Option.some.injEq, Prod.mk.injEq] at h; obtain ⟨rfl, rfl⟩ := h; simp [binOp, Op.intCmp, Value.oneCell']
  | neq => simp only [binI, Option.some.injEq, Prod.mk.injEq] at h; obtain ⟨rfl, rfl⟩ := h; simp [binOp, Op.intCmp, Value.oneCell']
  | lss => simp only [binI, Option.some.injEq, Prod.mk.injEq] at h; obtain ⟨rfl, rfl⟩ := h; simp [binOp, Op.intCmp, Value.oneCell']
  | leq => simp only [binI, Option.some.injEq, Prod.mk.injEq] at h; obtain ⟨rfl, rfl⟩ := h; simp [binOp, Op.intCmp, Value.oneCell']
  | gtr => simp only [binI, Option.some.injEq, Prod.mk.injEq] at h; obtain ⟨rfl, rfl⟩ := h; simp [binOp, Op.intCmp, Value.oneCell']
  | geq => simp only [binI, Option.some.injEq, Prod.mk.injEq] at h; obtain ⟨rfl, rfl⟩ := h; simp [binOp, Op.intCmp, Value.oneCell']
  | shl => simp [binI] at h
  | shr => simp [binI] at h
theorem binSh_run {op : BinOp} {k k' : IntKind} {x y : Int} {v : Value} {p : Prop} (h : binSh op k x y = some (v, p)) (hp : p) (t : TypeId) (w : World) :
    (binOp op t (.int k x) (.int k' y)).run cx.P w = .ok v w ∧ v.oneCell' = true := by
  cases op with
  | shl =>
    simp only [binSh, Option.some.injEq, Prod.mk.injEq] at h; obtain ⟨rfl, rfl⟩ := h
    obtain ⟨h0, h1⟩ := hp
    have hy : ¬ y < 0 := by omega
    simp [binOp, Op.shift, hy, arith_val h1, Value.oneCell']
  | shr =>
    simp only [binSh, Option.some.injEq, Prod.mk.injEq] at h; obtain ⟨rfl, rfl⟩ := h
    have h0 : 0 ≤ y := hp
    have hy : ¬ y < 0 := by omega
    have hd : x.fdiv (2 ^ min y.toNat k.bits) = x / 2 ^ min y.toNat k.bits := Int.fdiv_eq_ediv_of_nonneg x (by exact Int.le_of_lt (Int.pow_pos (by decide)))
    simp [binOp, Op.shift, hy, hd, Value.oneCell']
  | _ => simp [binSh] at h
theorem eqL_sb (x y : ByteArray) : eqL (sb x) (sb y) = (x.toList == y.toList) := by
  rw [ByteArray.toList_eq, ByteArray.toList_eq]
  unfold sb
  generalize x.data.toList = l
  generalize y.data.toList = m
  induction l generalizing m with
  | nil => cases m <;> rfl
  | cons a l ih =>
    cases m with
    | nil => rfl
    | cons b m =>
      have h : Nat.beq a.toNat b.toNat = (a == b) := by
        rw [beq_eq]
        by_cases e : a = b
        · subst e; simp
        · have e' : a.toNat ≠ b.toNat := fun h => e (UInt8.toNat_inj.1 h)
          simp [e, e']
      show (Nat.beq a.toNat b.toNat && eqL (l.map UInt8.toNat) (m.map UInt8.toNat)) = ((a == b) && (l == m))
      rw [h, ih]
theorem binS_run {op : BinOp} {x y : ByteArray} {v : Value} {p : Prop} (h : binS op x y = some (v, p)) (hp : p) (t : TypeId) (w : World) :
    (binOp op t (.string x) (.string y)).run cx.P w = .ok v w ∧ v.oneCell' = true := by
  cases op with
  | add =>
    simp only [binS, Option.some.injEq, Prod.mk.injEq] at h; obtain ⟨rfl, rfl⟩ := h
    have hp' : x.size + y.size ≤ 9223372036854775807 := hp
    have hm : IntKind.i64.max = 9223372036854775807 := by decide
    have : ¬ (((x.size + y.size : Nat) : Int) > IntKind.i64.max) := by rw [hm]; omega
    simp only [binOp, Op.stringOp, this, if_false]
    exact ⟨rfl, rfl⟩
  | eql => simp only [binS, Option.some.injEq, Prod.mk.injEq] at h; obtain ⟨rfl, rfl⟩ := h; rw [eqL_sb]; exact ⟨rfl, rfl⟩
  | neq => simp only [binS, Option.some.injEq, Prod.mk.injEq] at h; obtain ⟨rfl, rfl⟩ := h; rw [eqL_sb]; exact ⟨rfl, rfl⟩
  | lss => simp only [binS, Option.some.injEq, Prod.mk.injEq] at h; obtain ⟨rfl, rfl⟩ := h; exact ⟨rfl, rfl⟩
  | _ => simp [binS] at h
theorem binB_run (hT : TabOk cx.P cx.T) {op : BinOp} {x y : Bool} {v : Value} {p : Prop} (h : binB op x y = some (v, p)) {t : TypeId} (ht : (cx.T t).k = .bool) (w : World) :
    (binOp op t (.bool x) (.bool y)).run cx.P w = .ok v w ∧ v.oneCell' = true := by
  have hu : cx.P.underlying t = some .bool := by
    have := (hT.k (t := t) (by rw [ht]; exact fun h => by cases h)).under
    rw [ht] at this; exact this
  have he : ∀ d, (Op.equalIn (d + 1) t (.bool x) (.bool y)).run cx.P w = .ok (x == y) w := fun d => by simp [Op.equalIn, run_underlying hu]
  cases op with
  | eql => simp only [binB, Option.some.injEq, Prod.mk.injEq] at h; obtain ⟨rfl, rfl⟩ := h; simp [binOp, Op.equal, Op.maxDepth, he 9999, Value.oneCell']
  | neq => simp only [binB, Option.some.injEq, Prod.mk.injEq] at h; obtain ⟨rfl, rfl⟩ := h; simp [binOp, Op.equal, Op.maxDepth, he 9999, Value.oneCell']
  | _ => simp [binB] at h
theorem intC_own {h : Hp} {w : World} {c : C} {v : Value} {b : List Nat} {k : IntKind} {x : Int} (hc : intC c = some (k, x)) (ho : OwnC h w c v b) : v = .int k x := by
  unfold intC at hc
  split at hc
  · simp only [Option.some.injEq, Prod.mk.injEq] at hc
    obtain ⟨rfl, rfl⟩ := hc
    exact ho.1.1
  · cases hc
theorem eqCells_spec {h : Hp} {w : World} : ∀ {xs ys : List C} {vs us : List Value} {b : Bool}, eqCells xs ys = some b → OwnCs h w xs vs [] → OwnCs h w ys us [] →
    ∃ ps qs : List (IntKind × Int), vs = ps.map mkI ∧ us = qs.map mkI ∧ qs.map Prod.fst = ps.map Prod.fst ∧ b = decide (ps = qs)
  | [], [], _, _, b, hb, h1, h2 => by
    simp only [eqCells, Option.some.injEq] at hb
    exact ⟨[], [], by simp [h1.1], by simp [h2.1], rfl, by simp [← hb]⟩
  | c :: xs, d :: ys, _, _, b, hb, ⟨v, vs', b1, b2, hv, hbb, h1, h3⟩, ⟨u, us', c1, c2, hu, hcc, h2, h4⟩ => by
    simp only [eqCells] at hb
    split at hb
    · rename_i k x k' y b' hc hd hr
      have e1 : b1 = [] ∧ b2 = [] := by simpa using hbb.symm
      have e2 : c1 = [] ∧ c2 = [] := by simpa using hcc.symm
      rw [e1.2] at h3
      rw [e2.2] at h4
      obtain ⟨ps, qs, hp, hq, hk, hdd⟩ := eqCells_spec hr h3 h4
      have hv' := intC_own hc h1
      have hu' := intC_own hd h2
      by_cases hkk : k = k'
      · subst hkk
        simp only [beq_self_eq_true, cond_true, Option.some.injEq] at hb
        refine ⟨(k, x) :: ps, (k, y) :: qs, by rw [hv, hv', hp]; rfl, by rw [hu, hu', hq]; rfl, by simp [hk], ?_⟩
        rw [← hb, hdd]
        by_cases hxy : x = y <;> simp [hxy]
      · have : (k == k') = false := by simpa using hkk
        rw [this] at hb
        simp at hb
    · cases hb
  | [], _ :: _, _, _, _, hb, _, _ => by simp [eqCells] at hb
  | _ :: _, [], _, _, _, hb, _, _ => by simp [eqCells] at hb

theorem good_bin (hT : TabOk cx.P cx.T) (hd : DstOk cx o.dst) {op : BinOp} {t : TypeId} {x y : Operand} {ty : TypeId} (ho : o.op = .binOp op t x y ty) (hc : binE cx.T g op t x y = some e) (hp : e.pre) : Good cx g o e := by
  unfold binE at hc
  split at hc
  · rename_i r1 u r2 v h1 h2
    cases hb : binV (cx.T t).k op u v with
    | none => rw [hb] at hc; cases hc
    | some q =>
      obtain ⟨z, p⟩ := q
      rw [hb] at hc
      simp only [effp, Option.some.injEq] at hc
      subst hc
      simp only at hp
      refine good_value hd fun a w h bs M => ⟨z, ?_, ?_, trivial⟩
      · have e1 := (scal_val M h1).1
        have e2 := (scal_val M h2).1
        have hr : (binOp op t u v).run cx.P w = .ok z w := by
          unfold binV at hb
          split at hb
          · rename_i k a' k' b'
            cases hsh : isShift op with
            | true => rw [hsh] at hb; exact (binSh_run hb hp t w).1
            | false =>
              rw [hsh] at hb
              by_cases hk : k = k'
              · subst hk
                simp only [cond_false, beq_self_eq_true, cond_true] at hb
                exact (binI_run hb hp t w).1
              · have : (k == k') = false := by simpa using hk
                rw [this] at hb; simp at hb
          · exact (binS_run hb hp t w).1
          · split at hb
            · rename_i hk; exact (binB_run hT hb hk w).1
            · cases hb
          · cases hb
        have hg : (eqGuard op t x y u v).run cx.P w = .ok () w := by
          refine eqGuard_run op t x y u v w ?_
          unfold binV at hb
          split at hb <;> first | trivial | (cases hb; done) | skip
        simp [execOp, ho, e1, e2, hr, hg]
      · have hone : z.oneCell' = true := by
          unfold binV at hb
          split at hb
          · cases hsh : isShift op with
            | true => rw [hsh] at hb; exact (binSh_run (cx := cx) (k' := .i64) hb hp t w).2
            | false =>
              rw [hsh] at hb
              rename_i k a' k' b'
              by_cases hk : k = k'
              · subst hk
                simp only [cond_false, beq_self_eq_true, cond_true] at hb
                exact (binI_run (cx := cx) hb hp t w).2
              · have : (k == k') = false := by simpa using hk
                rw [this] at hb; simp at hb
          · exact (binS_run (cx := cx) hb hp t w).2
          · split at hb
            · rename_i hk; exact (binB_run hT hb hk w).2
            · cases hb
          · cases hb
        exact oneD_tells hone
  · split at hc
    · rename_i s1 xs s2 ys h1 h2
      cases hq : (cx.T t).eqs && Nat.beq xs.length (cx.T t).size with
      | false => rw [hq] at hc; simp at hc
      | true =>
        rw [hq] at hc
        simp only [cond_true] at hc
        simp only [Bool.and_eq_true] at hq
        have hsz : xs.length = (cx.T t).size := Nat.eq_of_beq_eq_true hq.2
        have hty : TyOk cx.P cx.T t := by
          rcases hT t with hdf | hty
          · rw [hdf] at hq; simp [dflt] at hq
          · exact hty
        have heq := hty.eq hq.1
        have key : ∀ (a : Act) (w : World) (h : Hp) (bs : Nat → List Nat) (b : Bool), SimW cx h bs g a w → eqCells xs ys = some b →
            (∀ op', (eqGuard op' t x y (a.eval x) (a.eval y)).run cx.P w = .ok () w) ∧ (Op.equal t (a.eval x) (a.eval y)).run cx.P w = .ok b w ∧ ∃ X Y, a.eval x = .agg X ∧ a.eval y = .agg Y := by
          intro a w h bs b M hb
          obtain ⟨vs, hv, he, _⟩ := plainOf_tells M h1
          obtain ⟨us, hu, hf, _⟩ := plainOf_tells M h2
          obtain ⟨ps, qs, rfl, rfl, hk, rfl⟩ := eqCells_spec hb hv hu
          simp only [mkV, cond_true] at he hf
          have hl : ps.length = (cx.T t).size := by rw [← hsz]; simpa using hv.length
          have := heq ps qs w hl hk
          rw [he, hf]
          exact ⟨fun op' => this.1 op' x y, this.2, _, _, rfl, rfl⟩
        split at hc
        · rename_i b hb
          simp only [eff, Option.some.injEq] at hc
          subst hc
          refine good_value hd fun a w h bs M => ⟨.bool b, ?_, oneD_tells rfl, trivial⟩
          obtain ⟨k1, k2, X, Y, k3, k4⟩ := key a w h bs b M hb
          have k1' := k1 .eql
          simp only [execOp, ho, Sem.run_bind, k1', Result.andThen_ok]
          rw [k3, k4] at k2 ⊢
          simp [binOp, k2]
        · rename_i b hb
          simp only [eff, Option.some.injEq] at hc
          subst hc
          refine good_value hd fun a w h bs M => ⟨.bool (!b), ?_, oneD_tells rfl, trivial⟩
          obtain ⟨k1, k2, X, Y, k3, k4⟩ := key a w h bs b M hb
          have k1' := k1 .neq
          simp only [execOp, ho, Sem.run_bind, k1', Result.andThen_ok]
          rw [k3, k4] at k2 ⊢
          simp [binOp, k2]
        · cases hc
    · cases hc

theorem good_un (hd : DstOk cx o.dst) {op : UnOp} {t : TypeId} {x : Operand} (ho : o.op = .unOp op t x) (hc : unE g op x = some e) (hp : e.pre) : Good cx g o e := by
  unfold unE at hc
  split at hc
  · rename_i r k n h1
    simp only [effp, Option.some.injEq] at hc
    subst hc
    simp only at hp
    refine good_value hd fun a w h bs M => ⟨_, ?_, oneD_tells (v := .int k (arith k (0 - n)).1) rfl, trivial⟩
    have := arith_val hp
    simp only [Int.zero_sub] at this
    simp [execOp, ho, (scal_val M h1).1, Op.unary, Op.intArith, this]
  · rename_i r b h1
    simp only [eff, Option.some.injEq] at hc
    subst hc
    refine good_value hd fun a w h bs M => ⟨_, ?_, oneD_tells (v := .bool (!b)) rfl, trivial⟩
    simp [execOp, ho, (scal_val M h1).1, Op.unary]
  · cases hc

theorem strF_nums (n : Nat) (f : Nat → Nat → D) : strOfNums ((List.range n).map fun j => ((byD (f j 0) : Nat) : Int)) = strF n f := by
  simp only [strF, ofB, strOfNums, List.map_map]
  rfl
theorem good_conv (hT : TabOk cx.P cx.T) (hd : DstOk cx o.dst) {s t : TypeId} {x : Operand} (ho : o.op = .convert s t x) (hc : convE cx.T g s t x = some e) (hp : e.pre) : Good cx g o e := by
  unfold convE at hc
  split at hc
  · rename_i r k n k1 k' h1 hs ht
    have us : cx.P.underlying s = some (.int k1) := by have := (hT.k (t := s) (by rw [hs]; exact fun h => by cases h)).under; rw [hs] at this; exact this
    have ut : cx.P.underlying t = some (.int k') := by have := (hT.k (t := t) (by rw [ht]; exact fun h => by cases h)).under; rw [ht] at this; exact this
    have hrun : ∀ (a : Act) (w : World) (h : Hp) (bs : Nat → List Nat), SimW cx h bs g a w → (execOp a.eval o).run cx.P w = .ok (.value (.int k' (k'.wrap n))) w := by
      intro a w h bs M
      simp [execOp, ho, (scal_val M h1).1, convert, run_underlying us, run_underlying ut, Conv.intToInt]
    cases hk : k'.signed with
    | true =>
      rw [hk] at hc
      simp only [cond_true] at hc
      cases hu : (k == IntKind.u64) with
      | true =>
        rw [hu] at hc
        simp only [cond_true, eff, Option.some.injEq] at hc
        subst hc
        exact good_value hd fun a w h bs M => ⟨_, hrun a w h bs M, oneD_tells rfl, trivial⟩
      | false =>
        rw [hu] at hc
        simp only [cond_false, effp, Option.some.injEq] at hc
        subst hc
        simp only at hp
        refine good_value hd fun a w h bs M => ⟨_, hrun a w h bs M, ?_, trivial⟩
        rw [wrap_in hp]; exact oneD_tells rfl
    | false =>
      rw [hk] at hc
      simp only [cond_false, eff, Option.some.injEq] at hc
      subst hc
      refine good_value hd fun a w h bs M => ⟨_, hrun a w h bs M, ?_, trivial⟩
      rw [wrap_uns hk]; exact oneD_tells rfl
  · rename_i et _ hs ht
    have us : cx.P.underlying s = some (.slice et) := by have := (hT.k (t := s) (by rw [hs]; exact fun h => by cases h)).under; rw [hs] at this; exact this
    have ut : cx.P.underlying t = some .string := by have := (hT.k (t := t) (by rw [ht]; exact fun h => by cases h)).under; rw [ht] at this; exact this
    cases hu : (cx.T et).k.isU8 with
    | false => rw [hu] at hc; cases hc
    | true =>
      rw [hu] at hc
      simp only [cond_true] at hc
      have ue : cx.P.underlying et = some (.int .u8) := by
        have hk : (cx.T et).k = .int .u8 := by
          unfold TyK.isU8 at hu
          split at hu
          · assumption
          · cases hu
        have := (hT.k (t := et) (by rw [hk]; exact fun h => by cases h)).under; rw [hk] at this; exact this
      split at hc
      · rename_i r n f hx
        simp only [effp, Option.some.injEq] at hc
        subst hc
        simp only at hp
        refine good_value hd fun a w h bs M => ⟨_, ?_, oneD_tells (v := .string (strF n f)) rfl, trivial⟩
        obtain ⟨vs, h1, h2, h3⟩ := plainOf_tells M hx
        obtain ⟨v, vs', b1, b2, rfl, hb, h4, h5, _⟩ := h1
        have hv : a.eval x = v := by rw [h2]; simp only [mkV, cond_false]; rfl
        obtain ⟨ad, cap, rfl, hcap, hr⟩ := h4.1
        have hex : (execOp a.eval o).run cx.P w = ((convert s t (a.eval x)).run cx.P w).andThen fun v w' => .ok (.value v) w' := by
          simp only [execOp, ho, Sem.run_bind, Sem.run_pure]
        rw [hex, hv]
        rcases hr with hn | ⟨b, of, rfl, hcell⟩
        · subst hn
          have : (convert s t (.slice ad 0 cap)).run cx.P w = .ok (.string (strF 0 f)) w := by
            cases ad with
            | none => rw [run_convert_bytes_nil w s et us ue 0 cap t ut]; rfl
            | some ad =>
              rw [run_convert_bytes_string w s t et _ 0 cap us ue ut, run_bytesToString w ad 0 cap [] (by simp [loadCells, loadCellsFrom])]
              rfl
          rw [this]; rfl
        · have hby : ∀ j, j < n → ∃ z : Int, 0 ≤ z ∧ z < 256 ∧ f j 0 = .v (.int .u8 z) := by
            intro j hj
            have := hp j hj
            unfold u8D at this
            split at this
            · rename_i z hz; exact ⟨z, this.1, this.2, hz⟩
            · exact this.elim
          have h6 := run_convert_bytes_arg (P := cx.P) w s et us ue b of n cap ((List.range n).map fun j => ((byD (f j 0) : Nat) : Int)) (by simp) (fun j hj => by
            obtain ⟨u, hu, hru⟩ := hcell j 0 hj (by omega)
            obtain ⟨z, z1, z2, z3⟩ := hby j hj
            rw [z3] at hru
            obtain ⟨rfl, _⟩ := hru
            have := M.holds.c _ _ _ hu
            rw [show of + (j * 1 + 0) = of + j by omega] at this
            rw [this]
            simp only [List.getD, List.getElem?_map, List.getElem?_range hj, Option.map_some, Option.getD_some, z3, byD]
            rw [show ((z.toNat : Nat) : Int) = z by omega]) t ut
          rw [h6]
          rw [strF_nums]; rfl
      · cases hc
  · cases hc
end Go.X
namespace Go.X
open Go
variable {cx : Cx} {g : Lk} {o : Oper} {e : Eff}

theorem add_eq (b i j : Nat) : (⟨b, i, none⟩ : Addr).add j = ⟨b, i + j, none⟩ := by
  unfold Addr.add
  split
  · rename_i h; simp [h]
  · rfl
theorem mkV_val {ag : Bool} {vs : List Value} : mkV ag vs = (bif ag then .agg vs.toArray else vs.headD undef) := rfl

theorem newVar_run {P : Program} {t : TypeId} {ag : Bool} {vs : List Value} (h1 : ag = false → vs.length = 1) (ho : ∀ v ∈ vs, v.oneCell' = true) (w : World) :
    (newVar t (mkV ag vs)).run P w = .ok ⟨w.heap.size, 0, none⟩ (w.alloc (.cells vs.toArray t)) := by
  have hc : (mkV ag vs).cells = vs.toArray := by
    apply Array.ext'
    rw [mkV_cells h1 ho]
  simp [newVar, newRow, hc]

theorem good_alloc (hT : TabOk cx.P cx.T) (hd : DstOk cx o.dst) {t : TypeId} (ho : o.op = .alloc t) (hc : allocE cx.T t = some e) : Good cx g o e := by
  unfold allocE at hc
  cases hk : kn cx.T t with
  | false => rw [hk] at hc; simp at hc
  | true =>
    rw [hk] at hc
    simp only [cond_true, eff, Option.some.injEq] at hc
    subst hc
    have ty := hT.kn hk
    rintro a w ⟨h, bs, M⟩
    have hz : OwnCs h w (cx.T t).zero ((cx.T t).zero.map cval) [] := zero_own ty.zo
    have hlen : aggK (cx.T t).k = false → ((cx.T t).zero.map cval).length = 1 := fun hf => by rw [List.length_map, ty.zl]; exact ty.one hf
    have hrun : (execOp a.eval o).run cx.P w = .ok (.value (.pointer (some ⟨w.heap.size, 0, none⟩))) (w.alloc (.cells ((cx.T t).zero.map cval).toArray t)) := by
      simp [execOp, ho, Instr.alloc, ty.zeroValue, newVar_run hlen hz.ones]
    have M1 := M.alloc ((cx.T t).zero.map cval).toArray t (fun _ => none) (fun _ _ h => by cases h)
    refine ⟨_, _, _, hrun, .inl rfl, M1.fin hd (x := .box t (cx.T t).zero) (pb := [w.heap.size]) ⟨w.heap.size, _, [], rfl, heap_alloc_new w _, zero_own ty.zo, rfl, ⟨fun i => by simp [Hp.ext], ?_⟩⟩ trivial (by simp) ?_ ?_ ?_⟩
    · cases hgg : (h.ext w.heap.size fun _ => none).g w.heap.size with
      | none => rfl
      | some l => exact absurd (M.holds.ltg (b := w.heap.size) (l := l) hgg) (Nat.lt_irrefl _)
    · intro s _ b hb hbs
      simp only [List.mem_singleton] at hb
      subst hb
      exact absurd (M.lt s _ hbs) (Nat.lt_irrefl _)
    · intro b hb
      simp only [List.mem_singleton] at hb
      subst hb
      exact .inl M.fr.size
    · intro b hb
      simp only [List.mem_singleton] at hb
      subst hb
      simp

/-- a new variable out of cells whose owners (if any) come out of a slot -/
theorem good_box (hd : DstOk cx o.dst) {t : TypeId} {x : Operand} (ho : o.op = .box t x) (hc : boxE cx.T g t x = some e) : Good cx g o e := by
  unfold boxE at hc
  split at hc
  · rename_i s k ag cs hs
    cases hk : (kn cx.T t && Nat.beq cs.length (cx.T t).size && ag == aggK (cx.T t).k) with
    | false => rw [hk] at hc; simp at hc
    | true =>
      rw [hk] at hc
      simp only [Bool.not_true, cond_false] at hc
      rintro a w ⟨h, bs, M⟩
      obtain ⟨ht, hr, hsl⟩ := src_tells M hs
      obtain ⟨vs, hv, he, hl⟩ := ht
      have hrun : (execOp a.eval o).run cx.P w = .ok (.value (.pointer (some ⟨w.heap.size, 0, none⟩))) (w.alloc (.cells vs.toArray t)) := by
        simp [execOp, ho, Instr.box, he, newVar_run (t := t) (fun hf => by rw [hv.length]; exact hl hf) hv.ones]
      -- the end, for whatever slots stand before the write
      have fin : ∀ (g1 : Lk) (bs1 : Nat → List Nat) (pb : List Nat), SimW cx h bs1 g1 a w → OwnCs h w cs vs pb → pb.Nodup → (∀ s b, b ∈ pb → b ∈ bs1 s → False) → (∀ b ∈ pb, cx.w0.heap.size ≤ b ∨ b ∈ cx.lb) → (∀ b ∈ pb, b < w.heap.size) →
          Sim cx (lkDst g1 o.dst (.box t cs)) (a.put o.dst (.pointer (some ⟨w.heap.size, 0, none⟩))) (w.alloc (.cells vs.toArray t)) := by
        intro g1 bs1 pb M0 hv hn hdj hm hlt
        have M1 := M0.alloc vs.toArray t (fun _ => none) (fun _ _ h => by cases h)
        have hst : Still h (h.ext w.heap.size fun _ => none) w (w.alloc (.cells vs.toArray t)) pb :=
          ⟨fun b hb => heap_alloc_old w _ b (hlt b hb), fun b hb i => by have := hlt b hb; simp only [Hp.ext]; rw [if_neg (by omega)], fun _ _ => rfl⟩
        refine M1.fin hd (x := .box t cs) (pb := w.heap.size :: pb) ⟨w.heap.size, vs, pb, rfl, heap_alloc_new w _, hv.keep (Hp.ext_le M0.holds _) hst, rfl, ⟨fun i => by simp [Hp.ext], ?_⟩⟩ trivial ?_ ?_ ?_ ?_
        · cases hgg : (h.ext w.heap.size fun _ => none).g w.heap.size with
          | none => rfl
          | some l => exact absurd (M0.holds.ltg (b := w.heap.size) (l := l) hgg) (Nat.lt_irrefl _)
        · exact List.nodup_cons.2 ⟨fun hb => absurd (hlt _ hb) (Nat.lt_irrefl _), hn⟩
        · intro s _ b hb hbs
          rcases List.mem_cons.1 hb with rfl | hb
          · exact absurd (M0.lt s _ hbs) (Nat.lt_irrefl _)
          · exact hdj s b hb hbs
        · intro b hb
          rcases List.mem_cons.1 hb with rfl | hb
          · exact .inl M0.fr.size
          · exact hm b hb
        · intro b hb
          rcases List.mem_cons.1 hb with rfl | hb
          · simp
          · have := hlt b hb; simp; omega
      cases hal : cs.all C.isD with
      | true =>
        rw [hal] at hc
        simp only [cond_true, eff, Option.some.injEq] at hc
        subst hc
        have := hv.plainBs hal
        rw [this] at hv
        exact ⟨_, _, _, hrun, .inl rfl, fin g bs [] M hv List.nodup_nil (fun _ b hb => by cases hb) (fun b hb => by cases hb) (fun b hb => by cases hb)⟩
      | false =>
        rw [hal] at hc
        simp only [cond_false] at hc
        cases s with
        | some q =>
          simp only [Option.some.injEq] at hc
          subst hc
          obtain ⟨hg, hvq⟩ := hsl q rfl
          have M1 := M.mod hg (x := .no) (pb := []) (fun u hu => ⟨rfl, trivial⟩) List.nodup_nil (fun b hb => by cases hb) (fun t cs' h => by cases h) (fun c hc => by rw [noOwn_no] at hc; cases hc)
          refine ⟨_, _, _, hrun, .inl rfl, fin _ _ (bs q) M1 hv (M.nodup q) (fun s b h1 h2 => ?_) (M.mine q) (M.lt q)⟩
          by_cases hsq : s = q
          · rw [if_pos hsq] at h2; cases h2
          · rw [if_neg hsq] at h2; exact M.disj q s (Ne.symm hsq) b h1 h2
        | none =>
          cases hao : cs.any C.isOwn with
          | true => rw [hao] at hc; simp at hc
          | false =>
            rw [hao] at hc
            simp only [cond_false, eff, Option.some.injEq] at hc
            subst hc
            exact ⟨_, _, _, hrun, .inl rfl, fin g bs [] M hv List.nodup_nil (fun _ b hb => by cases hb) (fun b hb => by cases hb) (fun b hb => by cases hb)⟩
  · cases hc

/-! ### addresses -/
theorem boxAt_spec {s k : Nat} {t : TypeId} {cs : List C} (hb : boxAt g s k = some (t, cs)) : g s = some (k, .box t cs) := by
  unfold boxAt at hb
  split at hb
  · rename_i k' t' cs' hg
    rw [beq_eq] at hb
    by_cases hk : k' = k
    · subst hk
      simp only [decide_true, cond_true, Option.some.injEq, Prod.mk.injEq] at hb
      obtain ⟨rfl, rfl⟩ := hb
      exact hg
    · simp [hk] at hb
  · cases hb
/-- an address: of a cell of a box, of a cell of an owned slice's element, of known cells -/
theorem addrOf_tells {h : Hp} {bs : Nat → List Nat} {a : Act} {w : World} (M : SimW cx h bs g a w) {x : Operand} {rd : List Nat} {y : X.S} (hx : addrOf g x = some (rd, y)) :
    Tells h w y (a.eval x) [] ∧ Refs g a w y (a.eval x) ∧ (match y with | .adr s k _ => ∃ t cs, g s = some (k, .box t cs) | .elt r _ _ => ∃ sz n f, atRoot g r = some (.own sz n f) | .imm .. => True | .one .. => True | _ => False) := by
  unfold addrOf at hx
  split at hx
  · rename_i t k bt cs hs
    simp only [Option.some.injEq, Prod.mk.injEq] at hx
    obtain ⟨rfl, rfl⟩ := hx
    obtain ⟨ht, _, hsl⟩ := src_tells M hs
    obtain ⟨hg, hv⟩ := hsl t rfl
    refine ⟨rfl, ⟨k, _, hg, Nat.le_refl _, fun _ t' cs' hb => ?_⟩, bt, cs, hg⟩
    obtain ⟨b, vs, bs', hp, _⟩ := ht
    exact ⟨b, by rw [hv, hp], hp⟩
  · rename_i s k r hs
    obtain ⟨ht, ⟨kk, yy, hyy, hle, hval⟩, hsl⟩ := src_tells M hs
    split at hx
    · rename_i k' bt cs hrc hg
      rw [beq_eq] at hx
      by_cases hk : k' = r.k
      · subst hk
        simp only [decide_true, cond_true, Option.some.injEq, Prod.mk.injEq] at hx
        obtain ⟨rfl, rfl⟩ := hx
        rw [hg] at hyy
        injection hyy with hyy
        injection hyy with e1 e2
        subst e1; subst e2
        have hroot := hval rfl (.inl hrc)
        unfold rootV at hroot
        rw [hrc] at hroot
        simp only at hroot
        obtain ⟨u, hu, htu, _⟩ := M.slot r.s _ _ hg
        rw [hroot] at hu
        injection hu with hu
        subst hu
        obtain ⟨b, vs, bs', hp, _⟩ := htu
        exact ⟨rfl, ⟨_, _, hg, Nat.le_refl _, fun _ t' cs' hb => ⟨b, by rw [hroot, hp], hp⟩⟩, bt, cs, hg⟩
      · simp [hk] at hx
    · cases hx
  · rename_i s k t k' off hs
    cases hb : boxAt g t k' with
    | none => rw [hb] at hx; cases hx
    | some p =>
      rw [hb] at hx
      simp only [Option.some.injEq, Prod.mk.injEq] at hx
      obtain ⟨rfl, rfl⟩ := hx
      obtain ⟨ht, hr, _⟩ := src_tells M hs
      exact ⟨rfl, hr, p.1, p.2, boxAt_spec hb⟩
  · rename_i s k r j off hs
    split at hx
    · rename_i sz n f hat
      simp only [Option.some.injEq, Prod.mk.injEq] at hx
      obtain ⟨rfl, rfl⟩ := hx
      obtain ⟨ht, hr, _⟩ := src_tells M hs
      exact ⟨rfl, hr, sz, n, f, hat⟩
    · cases hx
  · rename_i s k sz off e' hs
    simp only [Option.some.injEq, Prod.mk.injEq] at hx
    obtain ⟨rfl, rfl⟩ := hx
    obtain ⟨ht, hr, _⟩ := src_tells M hs
    exact ⟨⟨rfl, ht.2⟩, trivial, trivial⟩
  · rename_i s k l off hs
    simp only [Option.some.injEq, Prod.mk.injEq] at hx
    obtain ⟨rfl, rfl⟩ := hx
    obtain ⟨ht, hr, _⟩ := src_tells M hs
    exact ⟨one_own ⟨(own_one ht).1, rfl⟩, trivial, trivial⟩
  · cases hx
theorem adr_box {h : Hp} {bs : Nat → List Nat} {a : Act} {w : World} (M : SimW cx h bs g a w) {s k off : Nat} {t : TypeId} {cs : List C} {v : Value} (hr : Refs g a w (.adr s k off) v) (hb : g s = some (k, .box t cs)) :
    ∃ b vs bs', v = .pointer (some ⟨b, off, none⟩) ∧ a.tmps[s]? = some (.pointer (some ⟨b, 0, none⟩)) ∧ w.heap[b]? = some (.cells vs.toArray t (0, 0)) ∧ OwnCs h w cs vs bs' ∧ bs s = b :: bs' ∧ Free h b := by
  obtain ⟨k', y, hy, _, hv⟩ := hr
  rw [hb] at hy
  injection hy with hy
  injection hy with e1 e2
  subst e1; subst e2
  obtain ⟨b, h1, h2⟩ := hv rfl t cs rfl
  obtain ⟨u, hu, ⟨b', vs, bs', hp, hh, ho, hbs, hf⟩, _⟩ := M.slot s _ _ hb
  rw [h1] at hu
  injection hu with hu
  rw [hp] at hu
  injection hu with hu
  injection hu with hu
  injection hu with hu
  subst hu
  exact ⟨b, vs, bs', h2, h1, hh, ho, hbs, hf⟩
theorem own_at {h : Hp} {bs : Nat → List Nat} {a : Act} {w : World} (M : SimW cx h bs g a w) {r : Root} {sz n : Nat} {f : Nat → Nat → D} (hat : atRoot g r = some (.own sz n f)) :
    ∃ v b, rootV a w r = some v ∧ OwnC h w (.own sz n f) v b ∧ (∀ x ∈ b, x ∈ bs r.s) ∧ ∃ y, g r.s = some (r.k, y) := by
  unfold atRoot at hat
  cases hg : g r.s with
  | none => rw [hg] at hat; cases hat
  | some p =>
    obtain ⟨k, y⟩ := p
    rw [hg] at hat
    simp only [beq_eq] at hat
    by_cases hk : k = r.k
    · subst hk
      simp only [decide_true, cond_true] at hat
      obtain ⟨u, hu, ht, _⟩ := M.slot r.s _ _ hg
      cases hrc : r.c with
      | none =>
        rw [hrc] at hat
        cases y with
        | one ag cs =>
          cases ag with
          | true => simp at hat
          | false =>
            match cs, hat, ht with
            | [c], hat, ht =>
              injection hat with hat
              subst hat
              exact ⟨u, bs r.s, by unfold rootV; rw [hrc]; exact hu, own_one ht, fun x hx => hx, _, rfl⟩
            | [], hat, _ => simp at hat
            | _ :: _ :: _, hat, _ => simp at hat
        | tup xs => simp at hat
        | box t cs => simp at hat
        | ref r => simp at hat
        | adr s k o => simp at hat
        | elt r j o => simp at hat
        | imm sz o e => simp at hat
        | ifc a b c => simp at hat
        | itr a b => simp at hat
        | bld a b c => simp at hat
        | no => simp at hat
      | some i =>
        rw [hrc] at hat
        cases y with
        | box t cs =>
          obtain ⟨b, vs, bs', hp, hh, ho, hbs, hf⟩ := ht
          obtain ⟨v, bb, hv, hov, hsub⟩ := ho.at hat
          refine ⟨v, bb, ?_, hov, fun x hx => by rw [hbs]; simp [hsub x hx], _, rfl⟩
          unfold rootV
          rw [hrc, hu, hp]
          simp only
          rw [cell_of_row w b i vs.toArray t (0, 0) hh]
          simpa using hv
        | one ag cs => simp at hat
        | tup xs => simp at hat
        | ref r => simp at hat
        | adr s k o => simp at hat
        | elt r j o => simp at hat
        | imm sz o e => simp at hat
        | ifc a b c => simp at hat
        | itr a b => simp at hat
        | bld a b c => simp at hat
        | no => simp at hat
    · simp [hk] at hat

theorem pow48 : (2 : Nat) ^ 48 = 281474976710656 := by decide
/-- loading cells that are known -/
theorem loadVar_run (hT : TabOk cx.P cx.T) {t : TypeId} (hk : kn cx.T t = true) {b o' : Nat} {vs : List Value} {w : World} (hl : vs.length = (cx.T t).size) (hc : ∀ i v, vs[i]? = some v → w.cell? ⟨b, o' + i, none⟩ = some v) :
    (loadVar t ⟨b, o', none⟩).run cx.P w = .ok (mkV (aggK (cx.T t).k) vs) w := by
  have ty := hT.kn hk
  have h1 := run_loadCells_list (P := cx.P) w ⟨b, o', none⟩ vs (fun j v hv => by rw [add_eq]; exact hc j v hv)
  rw [hl] at h1
  unfold loadVar
  cases hag : aggK (cx.T t).k with
  | true => simp [ty.isAgg, hag, ty.sizeOf, h1, mkV]
  | false =>
    have := ty.one hag
    rw [this] at hl
    match vs, hl, hc with
    | [v], _, hc =>
      have h0 := hc 0 v rfl
      simp only [Nat.add_zero] at h0
      simp [ty.isAgg, hag, mkV, h0]
end Go.X
namespace Go.X
open Go
variable {cx : Cx} {g : Lk} {o : Oper} {e : Eff}

theorem cellsF_get (off n i : Nat) (f : Nat → D) : (cellsF off n f)[i]? = if i < n then some (.d (f (off + i))) else none := by
  unfold cellsF
  rw [List.getElem?_map]
  by_cases h : i < n
  · simp [h]
  · simp [h]
theorem cellsF_length (off n : Nat) (f : Nat → D) : (cellsF off n f).length = n := by simp [cellsF]
/-- values of cells, out of a function -/
theorem gather_vals {p : Nat → Value → Prop} : ∀ (n : Nat), (∀ i, i < n → ∃ v, p i v) → ∃ vs : List Value, vs.length = n ∧ ∀ i v, vs[i]? = some v → p i v
  | 0, _ => ⟨[], rfl, fun i v h => by simp at h⟩
  | n + 1, h => by
    obtain ⟨vs, hl, hp⟩ := gather_vals n fun i hi => h i (by omega)
    obtain ⟨v, hv⟩ := h n (by omega)
    refine ⟨vs ++ [v], by simp [hl], fun i u hu => ?_⟩
    by_cases hi : i < n
    · rw [List.getElem?_append_left (by omega)] at hu
      exact hp i u hu
    · rw [List.getElem?_append_right (by omega)] at hu
      by_cases hi2 : i = n
      · subst hi2
        simp only [hl, Nat.sub_self, List.getElem?_cons_zero, Option.some.injEq] at hu
        subst hu
        exact hv
      · have : i - vs.length ≥ 1 := by omega
        rw [List.getElem?_eq_none (by simp; omega)] at hu
        cases hu

theorem good_load (hT : TabOk cx.P cx.T) (hd : DstOk cx o.dst) {t : TypeId} {x : Operand} {tk : Bool} (ho : o.op = .load t x) (hc : loadE cx.T g tk t x = some e) : Good cx g o e := by
  unfold loadE at hc
  cases hk : kn cx.T t with
  | false => rw [hk] at hc; simp at hc
  | true =>
  rw [hk] at hc
  simp only [Bool.not_true, cond_false] at hc
  have ty := hT.kn hk
  -- what a load out of known addresses gives
  have hrun : ∀ (a : Act) (w : World) (b off : Nat) (vs : List Value), a.eval x = .pointer (some ⟨b, off, none⟩) → vs.length = (cx.T t).size → (∀ i v, vs[i]? = some v → w.cell? ⟨b, off + i, none⟩ = some v) →
      (execOp a.eval o).run cx.P w = .ok (.value (mkV (aggK (cx.T t).k) vs)) w := by
    intro a w b off vs hev hl hcell
    simp [execOp, ho, Instr.loadAt, Instr.sureAddr, hev, loadVar_run hT hk hl hcell]
  split at hc
  · rename_i rd s k off hxa
    cases hbx : boxAt g s k with
    | none => rw [hbx] at hc; cases hc
    | some p =>
      obtain ⟨bt, cs⟩ := p
      rw [hbx] at hc
      simp only at hc
      have hg := boxAt_spec hbx
      cases hag : aggK (cx.T t).k with
      | true =>
        rw [hag] at hc
        simp only [cond_true] at hc
        cases hq : (Nat.beq ((cs.drop off).take (cx.T t).size).length (cx.T t).size && !((cs.drop off).take (cx.T t).size).any C.isOwn) with
        | false => rw [hq] at hc; simp at hc
        | true =>
          rw [hq] at hc
          simp only [cond_true, eff, Option.some.injEq] at hc
          subst hc
          simp only [Bool.and_eq_true, Bool.not_eq_true'] at hq
          have hlen := Nat.eq_of_beq_eq_true hq.1
          refine good_value hd fun a w h bs M => ?_
          obtain ⟨ht, hr, _⟩ := addrOf_tells M hxa
          obtain ⟨b, vs, bs', hev, _, hh, hown, _, _⟩ := adr_box M hr hg
          have hsp : OwnCs h w (cs.take off ++ ((cs.drop off).take (cx.T t).size ++ (cs.drop off).drop (cx.T t).size)) vs bs' := by
            rw [List.take_append_drop, List.take_append_drop]; exact hown
          obtain ⟨v1, v2, b1, b2, rfl, rfl, h1, h2⟩ := hsp.split
          obtain ⟨v3, v4, b3, b4, rfl, rfl, h3, h4⟩ := h2.split
          have hoff : v1.length = off := by
            rw [h1.length, List.length_take]
            have : off ≤ cs.length := by
              have := ty.pos
              simp only [List.length_take, List.length_drop] at hlen
              omega
            omega
          refine ⟨_, hrun a w b off v3 hev (by rw [h3.length, hlen]) (fun i v hv => ?_), ⟨v3, h3.view hq.2, by rw [hag], fun hf => by cases hf⟩, trivial⟩
          rw [cell_of_row w b (off + i) _ bt (0, 0) hh]
          simp only [List.getElem?_toArray]
          rw [List.getElem?_append_right (by omega), hoff, Nat.add_sub_cancel_left, List.getElem?_append_left (by have := (List.getElem?_eq_some_iff.1 hv).1; omega)]
          exact hv
      | false =>
        rw [hag] at hc
        simp only [cond_false] at hc
        have hone := ty.one hag
        have ones : ∀ {a : Act} {w : World} {h : Hp} {bs : Nat → List Nat} {c : C}, SimW cx h bs g a w → cs[off]? = some c → ∃ v b bs', (execOp a.eval o).run cx.P w = .ok (.value v) w ∧ OwnC h w c v bs' ∧ a.tmps[s]? = some (.pointer (some ⟨b, 0, none⟩)) ∧ w.cell? ⟨b, off, none⟩ = some v ∧ (∀ x ∈ bs', x ∈ bs s) := by
          intro a w h bs c M hcs
          obtain ⟨ht, hr, _⟩ := addrOf_tells M hxa
          obtain ⟨b, vs, bs', hev, hts, hh, hown, hbs, _⟩ := adr_box M hr hg
          obtain ⟨v, bb, hv, hov, hsub⟩ := hown.at hcs
          have hcell : w.cell? ⟨b, off, none⟩ = some v := by
            rw [cell_of_row w b off _ bt (0, 0) hh]; simpa using hv
          refine ⟨v, b, bb, ?_, hov, hts, hcell, fun x hx => by rw [hbs]; simp [hsub x hx]⟩
          have := hrun a w b off [v] hev (by simp [hone]) (fun i u hu => by
            cases i with
            | zero => simp only [List.getElem?_cons_zero, Option.some.injEq] at hu; subst hu; simpa using hcell
            | succ i => simp at hu)
          rw [hag] at this
          simpa [mkV] using this
        split at hc
        · rename_i z hz
          simp only [eff, Option.some.injEq] at hc
          subst hc
          refine good_value hd fun a w h bs M => ?_
          obtain ⟨v, b, bs', h1, h2, _, _⟩ := ones M hz
          exact ⟨v, h1, one_own ⟨h2.1, rfl⟩, trivial⟩
        · rename_i sz n f hz
          simp only [eff, Option.some.injEq] at hc
          subst hc
          refine good_value hd fun a w h bs M => ?_
          obtain ⟨v, b, bs', h1, h2, h3, h4, _⟩ := ones M hz
          refine ⟨v, h1, rfl, ⟨k, _, hg, Nat.le_refl _, fun _ _ => ?_⟩⟩
          unfold rootV
          simp only [h3]
          exact h4
        · rename_i sz n f hz
          cases tk with
          | false =>
            simp only [cond_false, eff, Option.some.injEq] at hc
            subst hc
            refine good_value hd fun a w h bs M => ?_
            obtain ⟨v, b, bs', h1, h2, _, _⟩ := ones M hz
            exact ⟨v, h1, one_own (h2.view rfl), trivial⟩
          | true =>
            simp only [cond_true, Option.some.injEq] at hc
            subst hc
            rintro a w ⟨h, bs, M⟩
            obtain ⟨v, b, bs', h1, h2, h3, h4, _⟩ := ones M hz
            obtain ⟨ht, hr, _⟩ := addrOf_tells M hxa
            obtain ⟨b0, vs, bs0, hev, hts, hh, hown, hbs, hfree⟩ := adr_box M hr hg
            have hlt := (List.getElem?_eq_some_iff.1 hz).1
            have hsp : OwnCs h w (cs.take off ++ (.app sz n f :: cs.drop (off + 1))) vs bs0 := by
              have : cs = cs.take off ++ (.app sz n f :: cs.drop (off + 1)) := by
                rw [← (List.getElem?_eq_some_iff.1 hz).2, ← List.drop_eq_getElem_cons hlt, List.take_append_drop]
              rw [← this]; exact hown
            obtain ⟨v1, v2, b1, b2, rfl, rfl, g1, g2⟩ := hsp.split
            obtain ⟨u, v3, b3, b4, rfl, rfl, g3, g4⟩ := g2
            have hoff : v1.length = off := by rw [g1.length, List.length_take]; omega
            have huv : u = v := by
              have e1 : b0 = b := by
                rw [hts] at h3; injection h3 with h3; injection h3 with h3; injection h3 with h3; injection h3
              subst e1
              rw [cell_of_row w b0 off _ bt (0, 0) hh] at h4
              simp only [List.getElem?_toArray] at h4
              rw [List.getElem?_append_right (by omega), hoff] at h4
              simpa using h4
            subst huv
            have hset : cs.set off (.d (.sf sz n f)) = cs.take off ++ (.d (.sf sz n f) :: cs.drop (off + 1)) := by
              rw [List.set_eq_take_append_cons_drop, if_pos hlt]
            have hnd := M.nodup s
            rw [hbs] at hnd
            have hnd' := (List.nodup_cons.1 hnd)
            have M1 := M.mod hg (x := .box bt (cs.set off (.d (.sf sz n f)))) (pb := b0 :: (b1 ++ b4)) (fun y hy => ⟨⟨b0, _, b1 ++ b4, by rw [hts] at hy; injection hy with hy; exact hy.symm, hh, by
                rw [hset]; exact g1.append ⟨u, v3, [], b4, rfl, rfl, g3.view rfl, g4⟩, rfl, hfree⟩, trivial⟩)
              (by
                refine List.nodup_cons.2 ⟨fun hb => hnd'.1 ?_, ?_⟩
                · rcases List.mem_append.1 hb with hb | hb <;> simp [hb]
                · have h5 := List.nodup_append.1 hnd'.2
                  have h6 := List.nodup_append.1 h5.2.1
                  exact List.nodup_append.2 ⟨h5.1, h6.2.1, fun x hx y hy => h5.2.2 x hx y (by simp [hy])⟩)
              (by intro x hx; rw [hbs]; rcases List.mem_cons.1 hx with rfl | hx
                  · simp
                  · rcases List.mem_append.1 hx with hx | hx <;> simp [hx])
              (fun t' cs' h => ⟨cs, by injection h with e1 e2; subst e1; rfl⟩)
              (fun c hc => by
                unfold atRoot at hc ⊢
                simp only [lkMod, if_true, hg, Option.map_some, beq_eq, decide_true, cond_true] at hc ⊢
                cases c with
                | none => simp [isOwnO] at hc
                | some i =>
                  simp only at hc ⊢
                  by_cases hi : i = off
                  · subst hi
                    rw [List.getElem?_set_self hlt] at hc
                    simp [isOwnO] at hc
                  · rw [List.getElem?_set_ne (Ne.symm hi)])
            refine ⟨_, _, _, h1, .inl rfl, M1.fin hd (x := .one false [.app sz n f]) (one_own g3) trivial ?_ ?_ ?_ ?_⟩
            · exact (List.nodup_append.1 (List.nodup_append.1 hnd'.2).2.1).1
            · intro q _ x hx hxq
              by_cases hqs : q = s
              · subst hqs
                simp only [if_true] at hxq
                rcases List.mem_cons.1 hxq with rfl | hxq
                · exact hnd'.1 (by simp [hx])
                · have h5 := List.nodup_append.1 hnd'.2
                  have h6 := List.nodup_append.1 h5.2.1
                  rcases List.mem_append.1 hxq with hxq | hxq
                  · exact h5.2.2 x hxq x (by simp [hx]) rfl
                  · exact h6.2.2 x hx x hxq rfl
              · rw [if_neg hqs] at hxq
                exact M.disj s q (Ne.symm hqs) x (by rw [hbs]; simp [hx]) hxq
            · intro x hx; exact M.mine s x (by rw [hbs]; simp [hx])
            · intro x hx; exact M.lt s x (by rw [hbs]; simp [hx])
        · cases hc
  · rename_i rd r j off hx
    split at hc
    · rename_i sz n f hat
      cases hq : Nat.ble (off + (cx.T t).size) sz with
      | false => rw [hq] at hc; simp at hc
      | true =>
        rw [hq] at hc
        simp only [cond_true, eff, Option.some.injEq] at hc
        subst hc
        have hle : off + (cx.T t).size ≤ sz := Nat.le_of_ble_eq_true hq
        refine good_value hd fun a w h bs M => ?_
        obtain ⟨ht, hr, _⟩ := addrOf_tells M hx
        obtain ⟨k, y, hy, _, hv⟩ := hr
        obtain ⟨rv, bb, hrv, hown, _, _, hg2⟩ := own_at M hat
        rw [hy] at hg2
        injection hg2 with hg2
        injection hg2 with e1 e2
        obtain ⟨b, p, len, cap, h1, h2, hj⟩ := hv e1 sz n f hat
        rw [hrv] at h1
        injection h1 with h1
        obtain ⟨b', p', cap', cells, et, h3, hn, hh, hcs, hf, _, _⟩ := hown
        rw [h1] at h3
        injection h3 with h3 _ _
        injection h3 with h3
        injection h3 with h3 h3p _
        subst h3
        subst h3p
        obtain ⟨vs, hl, hp⟩ := gather_vals (p := fun i v => cells[p + (j * sz + (off + i))]? = some v ∧ (f j (off + i)).rep h v) (cx.T t).size (fun i hi => hf j (off + i) hj (by omega))
        refine ⟨_, hrun a w b (p + (j * sz + off)) vs h2 hl (fun i v hv => by rw [cell_of_row w b _ cells et (0, 0) hh, show p + (j * sz + off) + i = p + (j * sz + (off + i)) by omega]; exact (hp i v hv).1), ⟨vs, OwnCs.of_plain (by rw [hl, cellsF_length]) (fun i c v hc hv => ?_), rfl, fun hf => by rw [cellsF_length]; exact ty.one hf⟩, trivial⟩
        rw [cellsF_get] at hc
        split at hc
        · injection hc with hc; subst hc; exact ⟨(hp i v hv).2, rfl⟩
        · cases hc
    · cases hc
  · rename_i rd sz off f hx
    cases hq : Nat.ble (off + (cx.T t).size) sz with
    | false => rw [hq] at hc; simp at hc
    | true =>
      rw [hq] at hc
      simp only [cond_true, eff, Option.some.injEq] at hc
      subst hc
      have hle : off + (cx.T t).size ≤ sz := Nat.le_of_ble_eq_true hq
      refine good_value hd fun a w h bs M => ?_
      obtain ⟨⟨_, b, o', hev, hcell⟩, hr, _⟩ := addrOf_tells M hx
      obtain ⟨vs, hl, hp⟩ := gather_vals (p := fun i v => h.c b (o' + (off + i)) = some v ∧ (f (off + i)).rep h v) (cx.T t).size (fun i hi => by
        obtain ⟨u, h1, h2⟩ := hcell (off + i) (by omega)
        exact ⟨u, h1, h2⟩)
      refine ⟨_, hrun a w b (o' + off) vs hev hl (fun i v hv => by rw [Nat.add_assoc]; exact M.holds.c _ _ _ (hp i v hv).1), ⟨vs, OwnCs.of_plain (by rw [hl, cellsF_length]) (fun i c v hc hv => ?_), rfl, fun hf => by rw [cellsF_length]; exact ty.one hf⟩, trivial⟩
      rw [cellsF_get] at hc
      split at hc
      · injection hc with hc; subst hc; exact ⟨(hp i v hv).2, rfl⟩
      · cases hc
  · rename_i rd l off hx
    cases hq : (Nat.beq off 2 && (cx.T t).k.isI64) with
    | false => rw [hq] at hc; cases hc
    | true =>
      rw [hq] at hc
      simp only [cond_true, eff, Option.some.injEq] at hc
      subst hc
      simp only [Bool.and_eq_true] at hq
      have h2 := Nat.eq_of_beq_eq_true hq.1
      subst h2
      have hkk : (cx.T t).k = .int .i64 := by
        have := hq.2
        unfold TyK.isI64 at this
        split at this
        · assumption
        · cases this
      have hag : aggK (cx.T t).k = false := by rw [hkk]; rfl
      refine good_value hd fun a w h bs M => ?_
      obtain ⟨ht, _, _⟩ := addrOf_tells M hx
      obtain ⟨b, hev, hg⟩ := (own_one ht).1
      obtain ⟨p, q, T', hh⟩ := M.holds.g b l hg
      have hcell : w.cell? ⟨b, 2, none⟩ = some (.int .i64 l) := by rw [World.cell?]; simp only [hh]; rfl
      have := hrun a w b 2 [.int .i64 l] hev (by simp [ty.one hag]) (fun i u hu => by
        cases i with
        | zero => simp only [List.getElem?_cons_zero, Option.some.injEq] at hu; subst hu; exact hcell
        | succ i => simp at hu)
      rw [hag] at this
      exact ⟨_, this, oneD_tells rfl, trivial⟩
  · cases hc
end Go.X
