/- Part 4 of the proof of BackSums: The operations: nil checks, addresses of fields and elements, slices and strings, lengths. The operations: make, slices of slices and strings, lengths, the lesser and the greater one. No conditions but those that each theorem names. -/
import Derived.Test.YthmecihkgdaffaaGreatDoorP03
import Derived.Laws.MakeOwn
namespace Go.X
open Go
variable {cx : Cx} {g : Lk} {o : Oper} {e : Eff}

theorem good_nilCheck (hd : DstOk cx o.dst) {x : Operand} (ho : o.op = .nilCheck x) (hc : nilCheckE g x = some e) : Good cx g o e := by
  have hrun : ∀ (a : Act) (w : World) (p : Addr), a.eval x = .pointer (some p) → (execOp a.eval o).run cx.P w = .ok (.value (a.eval x)) w := by
    intro a w p h
    simp [execOp, ho, h]
  unfold nilCheckE at hc
  split at hc
  · rename_i s k t cs hs
    simp only [eff, Option.some.injEq] at hc
    subst hc
    refine good_value hd fun a w h bs M => ?_
    obtain ⟨⟨b, vs, bs', hp, _⟩, _, hsl⟩ := src_tells M hs
    obtain ⟨hg, hv⟩ := hsl s rfl
    exact ⟨_, hrun a w _ hp, rfl, ⟨k, _, hg, Nat.le_refl _, fun _ _ => hv⟩⟩
  · rename_i s k r hs
    split at hc
    · rename_i k' t cs hrc hg
      rw [beq_eq] at hc
      by_cases hk : k' = r.k
      · subst hk
        simp only [decide_true, cond_true, eff, Option.some.injEq] at hc
        subst hc
        refine good_value hd fun a w h bs M => ?_
        obtain ⟨_, hr, hsl⟩ := src_tells M hs
        have hr' := hr
        obtain ⟨kk, yy, hyy, hle, hval⟩ := hr
        rw [hg] at hyy
        injection hyy with hyy
        injection hyy with e1 e2
        have hroot := hval e1.symm (.inl hrc)
        unfold rootV at hroot
        rw [hrc] at hroot
        simp only at hroot
        obtain ⟨u, hu, ⟨b, vs, bs', hp, _⟩, _⟩ := M.slot r.s _ _ hg
        rw [hroot] at hu
        injection hu with hu
        rw [hp] at hu
        exact ⟨_, hrun a w _ hu, rfl, hr'⟩
      · simp [hk] at hc
    · cases hc
  · rename_i s k l hs
    simp only [eff, Option.some.injEq] at hc
    subst hc
    refine good_value hd fun a w h bs M => ?_
    obtain ⟨ht, _, _⟩ := src_tells M hs
    obtain ⟨hrep, _⟩ := own_one ht
    have hrep' := hrep
    obtain ⟨b, hp, hl⟩ := hrep
    exact ⟨_, hrun a w _ hp, one_own ⟨hrep', rfl⟩, trivial⟩
  · rename_i s k t k' off hs
    cases hb : boxAt g t k' with
    | none => rw [hb] at hc; cases hc
    | some p =>
      rw [hb] at hc
      simp only [eff, Option.some.injEq] at hc
      subst hc
      refine good_value hd fun a w h bs M => ?_
      obtain ⟨_, hr, _⟩ := src_tells M hs
      obtain ⟨b, vs, bs', hev, _⟩ := adr_box M hr (boxAt_spec (t := p.1) (cs := p.2) hb)
      exact ⟨_, hrun a w _ hev, rfl, hr⟩
  · cases hc

theorem mem_fields {fields : Array Field} {fs : List (TypeId × Nat)} (hf : fs = fields.toList.map fun f => (f.type, f.offset)) {i : Nat} {ft : TypeId} {off : Nat} (hi : fs[i]? = some (ft, off)) :
    ∃ f, fields[i]? = some f ∧ f.type = ft ∧ f.offset = off := by
  rw [hf, List.getElem?_map, Array.getElem?_toList] at hi
  cases h : fields[i]? with
  | none => rw [h] at hi; cases hi
  | some f =>
    rw [h] at hi
    simp only [Option.map_some, Option.some.injEq, Prod.mk.injEq] at hi
    exact ⟨f, rfl, hi.1, hi.2⟩

/-- an address that is known as one comes to a pointer -/
theorem addr_ptr {h : Hp} {bs : Nat → List Nat} {a : Act} {w : World} (M : SimW cx h bs g a w) {s k off : Nat} {v : Value} {t : TypeId} {cs : List C} (hr : Refs g a w (.adr s k off) v) (hb : g s = some (k, .box t cs)) : ∃ b, v = .pointer (some ⟨b, off, none⟩) :=
  let ⟨b, _, _, hv, _⟩ := adr_box M hr hb
  ⟨b, hv⟩

theorem good_fieldAddr (hT : TabOk cx.P cx.T) (hd : DstOk cx o.dst) {t : TypeId} {x : Operand} {i : Nat} (ho : o.op = .fieldAddr t x i) (hc : fieldAddrE cx.T g t x i = some e) : Good cx g o e := by
  unfold fieldAddrE at hc
  split at hc
  · rename_i fs hk
    have tyt := hT.k (t := t) (by rw [hk]; exact fun h => by cases h)
    have hu := tyt.under
    rw [hk] at hu
    obtain ⟨fields, hu, hfs⟩ := hu
    have hrun : ∀ (a : Act) (w : World) (b off : Nat) (ft : TypeId) (fo : Nat), kn cx.T ft = true → fs[i]? = some (ft, fo) → a.eval x = .pointer (some ⟨b, off, none⟩) →
        (execOp a.eval o).run cx.P w = .ok (.value (.pointer (some ⟨b, off + fo, none⟩))) w := by
      intro a w b off ft fo hkn hfi hev
      obtain ⟨f, hf, h1, h2⟩ := mem_fields hfs hfi
      have tyf := hT.kn hkn
      have hpos := tyf.pos
      rw [← h1] at tyf hpos
      simp [execOp, ho, Instr.fieldAt, run_underlying hu, hf, Instr.sureAddr, hev, fieldPlace, tyf.sizeOf, hpos, add_eq, h2]
    split at hc
    · rename_i ft fo rd s k off hfi hx
      cases hkn : kn cx.T ft with
      | false => rw [hkn] at hc; simp at hc
      | true =>
        rw [hkn] at hc
        simp only [Bool.not_true, cond_false, eff, Option.some.injEq] at hc
        subst hc
        refine good_value hd fun a w h bs M => ?_
        obtain ⟨_, hr, bt, cs, hg⟩ := addrOf_tells M hx
        obtain ⟨b, vs, bs', hev, hts, _⟩ := adr_box M hr hg
        exact ⟨_, hrun a w b off ft fo hkn hfi hev, rfl, ⟨k, _, hg, Nat.le_refl _, fun _ _ _ _ => ⟨b, hts, rfl⟩⟩⟩
    · rename_i ft fo rd r j off hfi hx
      cases hkn : kn cx.T ft with
      | false => rw [hkn] at hc; simp at hc
      | true =>
        rw [hkn] at hc
        simp only [Bool.not_true, cond_false, eff, Option.some.injEq] at hc
        subst hc
        refine good_value hd fun a w h bs M => ?_
        obtain ⟨_, hr, sz, n, f, hat⟩ := addrOf_tells M hx
        obtain ⟨k, y, hy, hle, hv⟩ := hr
        obtain ⟨_, _, _, _, _, y', hg2⟩ := own_at M hat
        rw [hy] at hg2
        injection hg2 with hg2
        injection hg2 with e1 e2
        obtain ⟨b, p, len, cap, h1, h2, hj⟩ := hv e1 sz n f hat
        refine ⟨_, hrun a w b (p + (j * sz + off)) ft fo hkn hfi h2, rfl, ⟨k, y, hy, hle, fun _ sz' n' f' hat' => ?_⟩⟩
        rw [hat] at hat'
        injection hat' with hat'
        injection hat' with e3 e4 e5
        subst e3; subst e4
        exact ⟨b, p, len, cap, h1, by rw [show p + (j * sz + off) + fo = p + (j * sz + (off + fo)) by omega], hj⟩
    · rename_i ft fo rd sz off f hfi hx
      cases hkn : kn cx.T ft with
      | false => rw [hkn] at hc; simp at hc
      | true =>
        rw [hkn] at hc
        simp only [Bool.not_true, cond_false, eff, Option.some.injEq] at hc
        subst hc
        refine good_value hd fun a w h bs M => ?_
        obtain ⟨⟨_, b, o', hev, hcell⟩, hr, _⟩ := addrOf_tells M hx
        exact ⟨_, hrun a w b (o' + off) ft fo hkn hfi hev, ⟨rfl, b, o', by rw [Nat.add_assoc], hcell⟩, trivial⟩
    · rename_i ft fo rd l off hfi hx
      cases hkn : kn cx.T ft with
      | false => rw [hkn] at hc; simp at hc
      | true =>
        rw [hkn] at hc
        simp only [Bool.not_true, cond_false, eff, Option.some.injEq] at hc
        subst hc
        refine good_value hd fun a w h bs M => ?_
        obtain ⟨ht, _, _⟩ := addrOf_tells M hx
        obtain ⟨b, hev, hg⟩ := (own_one ht).1
        exact ⟨_, hrun a w b off ft fo hkn hfi hev, one_own ⟨⟨b, rfl, hg⟩, rfl⟩, trivial⟩
    · cases hc
  · cases hc

theorem sliceOf_tells {h : Hp} {bs : Nat → List Nat} {a : Act} {w : World} (M : SimW cx h bs g a w) {x : Operand} {rd : List Nat} {r : Option Root} {c : C} (hx : sliceOf g x = some (rd, r, c)) :
    ∃ b, OwnC h w c (a.eval x) b ∧ (∀ r' sz n f, r = some r' → c = .own sz n f → atRoot g r' = some (.own sz n f) ∧ rootV a w r' = some (a.eval x)) := by
  unfold sliceOf at hx
  split at hx
  · rename_i t k c' hs
    simp only [Option.some.injEq, Prod.mk.injEq] at hx
    obtain ⟨rfl, rfl, rfl⟩ := hx
    obtain ⟨ht, _, hsl⟩ := src_tells M hs
    obtain ⟨hg, hv⟩ := hsl t rfl
    refine ⟨bs t, own_one ht, fun r' sz n f he hc => ?_⟩
    injection he with he
    subst he; subst hc
    exact ⟨by unfold atRoot; simp [hg], hv⟩
  · rename_i k c' hs
    simp only [Option.some.injEq, Prod.mk.injEq] at hx
    obtain ⟨rfl, rfl, rfl⟩ := hx
    obtain ⟨ht, _, _⟩ := src_tells M hs
    exact ⟨_, own_one ht, fun r' _ _ _ he _ => by cases he⟩
  · rename_i s k r0 hs
    split at hx
    · rename_i sz n f hat
      simp only [Option.some.injEq, Prod.mk.injEq] at hx
      obtain ⟨rfl, rfl, rfl⟩ := hx
      obtain ⟨_, ⟨kk, y, hy, _, hv⟩, _⟩ := src_tells M hs
      obtain ⟨v, b, hrv, hown, _, y', hg2⟩ := own_at M hat
      rw [hy] at hg2
      injection hg2 with hg2
      injection hg2 with e1 e2
      have := hv e1 (.inr (by rw [hat]; rfl))
      rw [this] at hrv
      injection hrv with hrv
      rw [← hrv] at hown
      refine ⟨b, hown, fun r' sz' n' f' he hc => ?_⟩
      injection he with he
      subst he
      injection hc with e3 e4 e5
      subst e3; subst e4; subst e5
      exact ⟨hat, this⟩
    · cases hx
  · cases hx

theorem good_indexAddr (hT : TabOk cx.P cx.T) (hd : DstOk cx o.dst) {t : TypeId} {x i : Operand} (ho : o.op = .indexAddr t x i) (hc : indexAddrE cx.T g t x i = some e) (hp : e.pre) : Good cx g o e := by
  unfold indexAddrE at hc
  split at hc
  · rename_i ri ki n et hi hk
    obtain ⟨hu, tyt⟩ := hT.sl hk
    cases hkn : kn cx.T et with
    | false => rw [hkn] at hc; simp at hc
    | true =>
    rw [hkn] at hc
    simp only [Bool.not_true, cond_false] at hc
    have tye := hT.kn hkn
    have hrun : ∀ (a : Act) (w : World) (h : Hp) (bs : Nat → List Nat) (b off len cap : Nat), SimW cx h bs g a w → a.eval x = .slice (some ⟨b, off, none⟩) len cap → idx len n →
        (execOp a.eval o).run cx.P w = .ok (.value (.pointer (some ⟨b, off + n.toNat * (cx.T et).size, none⟩))) w := by
      intro a w h bs b off len cap M hev hix
      obtain ⟨h0, h1⟩ := hix
      simp [execOp, ho, Instr.indexAt, asIntOf, (scal_val M hi).1, run_underlying hu, hev, h0, h1, tye.sizeOf, add_eq]
    split at hc
    · rename_i rd r sz len f hx
      cases hq : Nat.beq sz (cx.T et).size with
      | false => rw [hq] at hc; simp at hc
      | true =>
        rw [hq] at hc
        simp only [cond_true, effp, Option.some.injEq] at hc
        subst hc
        have hsz := Nat.eq_of_beq_eq_true hq
        simp only at hp
        refine good_value hd fun a w h bs M => ?_
        obtain ⟨b0, hown, _⟩ := sliceOf_tells M hx
        obtain ⟨⟨ad, cap, hev, hcap, hor⟩, _⟩ := hown
        have hp' := hp
        obtain ⟨h0, h1⟩ := hp
        rcases hor with hn | ⟨b, off, had, hf⟩
        · omega
        · subst had
          refine ⟨_, hrun a w h bs b off len cap M hev hp', ⟨rfl, b, off + n.toNat * sz, by rw [← hsz]; rfl, fun i hi => ?_⟩, trivial⟩
          obtain ⟨u, hu, hr⟩ := hf n.toNat i (by omega) hi
          exact ⟨u, by rw [Nat.add_assoc]; exact hu, hr⟩
    · rename_i rd r sz len f hx
      cases hq : Nat.beq sz (cx.T et).size with
      | false => rw [hq] at hc; simp at hc
      | true =>
        rw [hq] at hc
        simp only [cond_true, effp, Option.some.injEq] at hc
        subst hc
        have hsz := Nat.eq_of_beq_eq_true hq
        simp only at hp
        refine good_value hd fun a w h bs M => ?_
        obtain ⟨b0, hown, _⟩ := sliceOf_tells M hx
        obtain ⟨⟨ad, cap, hev, hcap, hor⟩, _⟩ := hown.view rfl
        have hp' := hp
        obtain ⟨h0, h1⟩ := hp
        rcases hor with hn | ⟨b, off, had, hf⟩
        · omega
        · subst had
          refine ⟨_, hrun a w h bs b off len cap M hev hp', ⟨rfl, b, off + n.toNat * sz, by rw [← hsz]; rfl, fun i hi => ?_⟩, trivial⟩
          obtain ⟨u, hu, hr⟩ := hf n.toNat i (by omega) hi
          exact ⟨u, by rw [Nat.add_assoc]; exact hu, hr⟩
    · rename_i rd r sz len f hx
      cases hq : Nat.beq sz (cx.T et).size with
      | false => rw [hq] at hc; simp at hc
      | true =>
        rw [hq] at hc
        simp only [cond_true, effp, Option.some.injEq] at hc
        subst hc
        have hsz := Nat.eq_of_beq_eq_true hq
        simp only at hp
        refine good_value hd fun a w h bs M => ?_
        obtain ⟨b0, hown, hroot⟩ := sliceOf_tells M hx
        obtain ⟨hat, hrv⟩ := hroot r sz len f rfl rfl
        obtain ⟨b, p, cap, cells, et', hev, hcap, hh, _⟩ := hown
        have hp' := hp
        obtain ⟨h0, h1⟩ := hp
        obtain ⟨_, _, _, _, _, y, hg⟩ := own_at M hat
        refine ⟨_, hrun a w h bs b p len cap M hev hp', rfl, ⟨r.k, y, hg, Nat.le_refl _, fun _ sz' n' f' hat' => ?_⟩⟩
        rw [hat] at hat'
        injection hat' with hat'
        injection hat' with e3 e4 e5
        subst e3; subst e4
        exact ⟨b, p, len, cap, by rw [hrv, hev], by simp [hsz], by omega⟩
    · cases hc
  · rename_i ri ki n len et hi hk
    have tyt := hT.k (t := t) (by rw [hk]; exact fun h => by cases h)
    have hu := tyt.under
    rw [hk] at hu
    cases hkn : kn cx.T et with
    | false => rw [hkn] at hc; simp at hc
    | true =>
    rw [hkn] at hc
    simp only [Bool.not_true, cond_false] at hc
    have tye := hT.kn hkn
    split at hc
    · rename_i rd s k off hx
      simp only [effp, Option.some.injEq] at hc
      subst hc
      simp only at hp
      refine good_value hd fun a w h bs M => ?_
      obtain ⟨_, hr, bt, cs, hg⟩ := addrOf_tells M hx
      obtain ⟨b, vs, bs', hev, hts, _⟩ := adr_box M hr hg
      obtain ⟨h0, h1⟩ := hp
      have hu' : cx.P.underlying t = some (.array len et) := hu
      refine ⟨.pointer (some ⟨b, off + n.toNat * (cx.T et).size, none⟩), ?_, rfl, ⟨k, _, hg, Nat.le_refl _, fun _ _ _ _ => ⟨b, hts, rfl⟩⟩⟩
      simp [execOp, ho, Instr.indexAt, asIntOf, (scal_val M hi).1, run_underlying hu', Instr.sureAddr, hev, h0, h1, tye.sizeOf, add_eq]
    · cases hc
  · cases hc

theorem data_getD (s : ByteArray) (n : Nat) (hn : n < s.size) : s[n]? = some (s.data.getD n 0) := by
  have h1 : s[n]? = some s[n] := by simp [hn]
  rw [h1]
  congr 1
  have hd : n < s.data.size := hn
  unfold Array.getD
  rw [dif_pos hd]
  rfl
theorem good_index (hT : TabOk cx.P cx.T) (hd : DstOk cx o.dst) {t : TypeId} {x i : Operand} (ho : o.op = .index t x i) (hc : indexE cx.T g t x i = some e) (hp : e.pre) : Good cx g o e := by
  unfold indexE at hc
  split at hc
  · rename_i ri ki n hi hk
    have hu : cx.P.underlying t = some .string := by
      have := (hT.k (t := t) (by rw [hk]; exact fun h => by cases h)).under
      rw [hk] at this; exact this
    split at hc
    · rename_i rd s hx
      simp only [effp, Option.some.injEq] at hc
      subst hc
      simp only at hp
      refine good_value hd fun a w h bs M => ⟨_, ?_, oneD_tells (v := .int .u8 ((s.data.getD n.toNat 0).toNat : Int)) rfl, trivial⟩
      obtain ⟨h0, h1⟩ := hp
      have := data_getD s n.toNat (by omega)
      simp [execOp, ho, Instr.index, asIntOf, (scal_val M hi).1, run_underlying hu, (scal_val M hx).1, h0, this]
    · cases hc
  · rename_i ri ki n len et hi hk
    have hu : cx.P.underlying t = some (.array len et) := by
      have := (hT.k (t := t) (by rw [hk]; exact fun h => by cases h)).under
      rw [hk] at this; exact this
    split at hc
    · rename_i rd cs hx
      cases hq : (Nat.beq (cx.T et).size 1 && !aggK (cx.T et).k && Nat.beq cs.length len && cs.all C.isD) with
      | false => rw [hq] at hc; simp at hc
      | true =>
        rw [hq] at hc
        simp only [cond_true, effp, Option.some.injEq] at hc
        subst hc
        simp only at hp
        simp only [Bool.and_eq_true, Bool.not_eq_true'] at hq
        obtain ⟨⟨⟨q1, q2⟩, q3⟩, q4⟩ := hq
        have hs1 := Nat.eq_of_beq_eq_true q1
        have hl := Nat.eq_of_beq_eq_true q3
        have tye : TyOk cx.P cx.T et := hT.kn (by unfold kn; rw [hs1]; rfl)
        refine good_value hd fun a w h bs M => ?_
        obtain ⟨vs, hv, hev, _⟩ := plainOf_tells M hx
        obtain ⟨h0, h1⟩ := hp
        have hlt : n.toNat < cs.length := by omega
        obtain ⟨v, b, hvi, hov, hb⟩ := hv.at (i := n.toNat) (c := cs[n.toNat]) (List.getElem?_eq_getElem hlt)
        have hget : cs.getD n.toNat nilC = cs[n.toNat] := by simp [List.getD, hlt]
        have hD : ∃ z, cs[n.toNat] = .d z := by
          have := List.all_eq_true.1 q4 cs[n.toNat] (List.getElem_mem hlt)
          cases hc : cs[n.toNat] with
          | d z => exact ⟨z, rfl⟩
          | own _ _ _ => rw [hc] at this; cases this
          | app _ _ _ => rw [hc] at this; cases this
        obtain ⟨z, hz⟩ := hD
        refine ⟨v, ?_, ?_, trivial⟩
        · have hvi' : vs.toArray[n.toNat]? = some v := by simpa using hvi
          simp [execOp, ho, Instr.index, asIntOf, (scal_val M hi).1, run_underlying hu, hev, mkV, h0, h1, part, tye.isAgg, q2, tye.sizeOf, hs1, hvi]
        · rw [hget, hz]
          rw [hz] at hov
          exact one_own ⟨hov.1, rfl⟩
    · cases hc
  · cases hc
end Go.X
namespace Go.X
open Go
variable {cx : Cx} {g : Lk} {o : Oper} {e : Eff}

theorem zero_cell {h : Hp} {cs : List C} (ho : cs.all zeroOk = true) {i : Nat} (hi : i < cs.length) : (cellD ((cs.getD i nilC).plain)).rep h ((cs.map cval).getD i undef) := by
  have hm := List.all_eq_true.1 ho cs[i] (List.getElem_mem hi)
  have h1 : cs.getD i nilC = cs[i] := by simp [List.getD, hi]
  have h2 : (cs.map cval).getD i undef = cval cs[i] := by simp [List.getD, hi]
  rw [h1, h2]
  cases hc : cs[i] with
  | d x => rw [hc] at hm; cases x with
    | v x => exact ⟨rfl, by rw [← oneB_eq]; exact hm⟩
    | sf sz n f => simp [zeroOk] at hm
    | ga l => simp [zeroOk] at hm
  | own sz n f => rw [hc] at hm; simp [zeroOk] at hm
  | app sz n f => rw [hc] at hm; exact ⟨none, 0, by rw [Nat.eq_of_beq_eq_true hm]; rfl, by rw [Nat.eq_of_beq_eq_true hm]; exact Nat.le_refl _, .inl (Nat.eq_of_beq_eq_true hm)⟩

theorem TyOk.zcells {P : Program} {T : Tab} {t : TypeId} (ty : TyOk P T t) : (mkV (aggK (T t).k) ((T t).zero.map cval)).cells = ((T t).zero.map cval).toArray := by
  apply Array.ext'
  rw [mkV_cells]
  · exact fun hf => by rw [List.length_map, ty.zl]; exact ty.one hf
  · exact (zero_own (h := ⟨fun _ _ => none, fun _ => none⟩) (w := default) ty.zo).ones

theorem good_makeSlice (hT : TabOk cx.P cx.T) (hd : DstOk cx o.dst) {t : TypeId} {l c : Operand} (ho : o.op = .makeSlice t l c) (hc : makeSliceE cx.T g t l c = some e) (hp : e.pre) : Good cx g o e := by
  unfold makeSliceE at hc
  split at hc
  · rename_i et r1 n r2 m hk hl hcc
    obtain ⟨hu, tyt⟩ := hT.sl hk
    cases hkn : kn cx.T et with
    | false => rw [hkn] at hc; simp at hc
    | true =>
    rw [hkn] at hc
    simp only [Bool.not_true, cond_false, effp, Option.some.injEq] at hc
    subst hc
    simp only at hp
    obtain ⟨rfl, h0, hn1, hn2⟩ := hp
    have tye := hT.kn hkn
    obtain ⟨ti, hi1, hi2, hi3, hi4⟩ := tye.info
    rintro a w ⟨h, bs, M⟩
    have hw : IntKind.i64.wrap n = n := wrap_in ⟨by have : IntKind.i64.min ≤ 0 := by decide
                                                    omega, by have : IntKind.i64.max = 9223372036854775807 := by decide
                                                              omega⟩
    have hbb : (ti.bytes : Int) * n = n * ((cx.T et).bytes : Int) := by rw [hi3, Int.mul_comm]
    have hb1 : ¬ ((ti.bytes : Int) * n > 2 ^ 48) := by
      have : (2 : Int) ^ 48 = 281474976710656 := by decide
      rw [this, hbb]; omega
    let cells : Array Value := (Array.range (n.toNat * (cx.T et).size)).map (((cx.T et).zero.map cval).toArray[· % ((cx.T et).zero.map cval).toArray.size]!)
    have hrun : (execOp a.eval o).run cx.P w = .ok (.value (.slice (some ⟨w.heap.size, 0, none⟩) n.toNat n.toNat)) (w.alloc (.cells cells et)) := by
      have hb1' : ¬ ((281474976710656 : Int) < ti.bytes * n) := by
        have : (2 : Int) ^ 48 = 281474976710656 := by decide
        rw [this] at hb1; omega
      have hn0 : ¬ n < 0 := by omega
      by_cases hz : n.toNat * (cx.T et).size = 0
      · have hc0 : cells = #[] := by simp [cells, hz]
        simp [execOp, ho, Instr.makeSlice, run_underlying hu, asInt, asIntOf, (scal_val M hl).1, (scal_val M hcc).1, typeInfo, hi1, hw, hb1', hn0, tye.sizeOf, hz, newRow, hc0]
        congr 2
        exact Array.eq_empty_of_size_eq_zero (by simp)
      · simp [execOp, ho, Instr.makeSlice, run_underlying hu, asInt, asIntOf, (scal_val M hl).1, (scal_val M hcc).1, typeInfo, hi1, hw, hb1', hn0, tye.sizeOf, hz, newRow, tye.zeroValue, tye.zcells, cells]
    have M1 := M.alloc cells et (fun _ => none) (fun _ _ h => by cases h)
    have hcs : cells.size = n.toNat * (cx.T et).size := by simp [cells]
    refine ⟨_, _, _, hrun, .inl rfl, M1.fin hd (x := .one false [.own (cx.T et).size n.toNat fun _ i => cellD (((cx.T et).zero.getD i nilC).plain)]) (pb := [w.heap.size])
      (one_own ⟨w.heap.size, 0, n.toNat, cells, et, rfl, Nat.le_refl _, heap_alloc_new w _, by omega, fun j i hj hi => ?_, rfl, ⟨fun i => by simp [Hp.ext], ?_⟩⟩) trivial (by simp) ?_ ?_ ?_⟩
    · have hlen : ((cx.T et).zero.map cval).length = (cx.T et).size := by rw [List.length_map, tye.zl]
      have hlt : j * (cx.T et).size + i < n.toNat * (cx.T et).size := by
        have : (j + 1) * (cx.T et).size ≤ n.toNat * (cx.T et).size := Nat.mul_le_mul_right _ hj
        rw [Nat.add_mul] at this
        omega
      refine ⟨((cx.T et).zero.map cval).getD i undef, ?_, zero_cell tye.zo (by rw [tye.zl]; exact hi)⟩
      have hmod : (j * (cx.T et).size + i) % (cx.T et).size = i := by
        rw [Nat.add_comm, Nat.add_mul_mod_self_right, Nat.mod_eq_of_lt hi]
      simp only [cells, Array.getElem?_map, List.size_toArray, hlen, Nat.zero_add]
      rw [Array.getElem?_eq_getElem (by simpa using hlt)]
      simp only [Array.getElem_range, Option.map_some, hmod]
      congr 1
      simp [List.getD, getElem!_pos, hlen, hi]
    · cases hgg : (h.ext w.heap.size fun _ => none).g w.heap.size with
      | none => rfl
      | some l => exact absurd (M.holds.ltg (b := w.heap.size) (l := l) hgg) (Nat.lt_irrefl _)
    · intro s _ b hb hbs
      simp only [List.mem_singleton] at hb
      subst hb
      exact absurd (M.lt s _ hbs) (Nat.lt_irrefl _)
    · intro b hb
      simp only [List.mem_singleton] at hb
      subst hb
      exact .inl M.fr.size
    · intro b hb
      simp only [List.mem_singleton] at hb
      subst hb
      simp
  · cases hc

theorem opt_run {h : Hp} {bs : Nat → List Nat} {a : Act} {w : World} (M : SimW cx h bs g a w) {x : Option Operand} {d : Int} {r : List Nat} {n : Int} (hx : opt g x d = some (r, n)) :
    (x = none ∧ n = d) ∨ ∃ y k, x = some y ∧ a.eval y = .int k n := by
  cases x with
  | none =>
    simp only [opt, Option.some.injEq, Prod.mk.injEq] at hx
    exact .inl ⟨rfl, hx.2.symm⟩
  | some y =>
    simp only [opt] at hx
    split at hx
    · rename_i r' k n' hs
      simp only [Option.some.injEq, Prod.mk.injEq] at hx
      obtain ⟨_, rfl⟩ := hx
      exact .inr ⟨y, k, rfl, (scal_val M hs).1⟩
    · cases hx

theorem good_slice (hT : TabOk cx.P cx.T) (hd : DstOk cx o.dst) {t : TypeId} {x : Operand} {lo hi : Option Operand} (ho : o.op = .slice t x lo hi none) (hc : sliceE cx.T g t x lo hi = some e) (hp : e.pre) : Good cx g o e := by
  have bound : ∀ (w : World) (k : IntKind) (n : Int) (y : Nat) (code : BoundsCode), 0 ≤ n → n ≤ y → (Instr.sliceBound (.int k n) y code).run cx.P w = .ok n.toNat w := by
    intro w k n y code h0 h1
    simp [Instr.sliceBound, asIntOf, h0, h1]
  have bounds : ∀ {h : Hp} {bs : Nat → List Nat} {a : Act} {w : World} (_ : SimW cx h bs g a w) (sl : Bool) (len cap : Nat) {r1 r2 : List Nat} {l u : Int}, opt g lo 0 = some (r1, l) → opt g hi len = some (r2, u) → 0 ≤ l → l ≤ u → u ≤ len → len ≤ cap →
      (Instr.sliceBounds sl len cap (lo.map a.eval) (hi.map a.eval) none).run cx.P w = .ok (l.toNat, u.toNat, cap) w := by
    intro h bs a w M sl len cap r1 r2 l u h1 h2 hl hlu hu hcap
    have e1 := opt_run M h1
    have e2 := opt_run M h2
    rcases e2 with ⟨rfl, rfl⟩ | ⟨y, k, rfl, hy⟩ <;> rcases e1 with ⟨rfl, rfl⟩ | ⟨z, k', rfl, hz⟩
    · simp [Instr.sliceBounds]
    · simp [Instr.sliceBounds, hz, bound w k' l len _ hl (by omega)]
    · simp [Instr.sliceBounds, hy, bound w k u cap _ (by omega) (by omega)]
    · simp [Instr.sliceBounds, hy, hz, bound w k u cap _ (by omega) (by omega), bound w k' l u.toNat _ hl (by omega)]
  unfold sliceE at hc
  split at hc
  · rename_i hk
    have hu : cx.P.underlying t = some .string := by
      have := (hT.k (t := t) (by rw [hk]; exact fun h => by cases h)).under
      rw [hk] at this; exact this
    split at hc
    · rename_i rd s hx
      split at hc
      · rename_i r1 l r2 u h1 h2
        simp only [effp, Option.some.injEq] at hc
        subst hc
        simp only at hp
        refine good_value hd fun a w h bs M => ⟨_, ?_, oneD_tells (v := .string (s.extract l.toNat u.toNat)) rfl, trivial⟩
        have := bounds M false s.size s.size h1 h2 hp.1 hp.2.1 hp.2.2 (Nat.le_refl _)
        simp [execOp, ho, Instr.sliceAt, run_underlying hu, Instr.slice, (scal_val M hx).1, this]
      · cases hc
    · cases hc
  · rename_i et hk
    obtain ⟨hu, tyt⟩ := hT.sl hk
    cases hkn : kn cx.T et with
    | false => rw [hkn] at hc; simp at hc
    | true =>
    rw [hkn] at hc
    simp only [Bool.not_true, cond_false] at hc
    have tye := hT.kn hkn
    split at hc
    · rename_i rd sz n f hx
      cases hq : (Nat.beq sz (cx.T et).size || Nat.beq n 0) with
      | false => rw [hq] at hc; simp at hc
      | true =>
        rw [hq] at hc
        simp only [cond_true] at hc
        split at hc
        · rename_i r1 l r2 u h1 h2
          simp only [effp, Option.some.injEq] at hc
          subst hc
          simp only at hp
          refine good_value hd fun a w h bs M => ?_
          obtain ⟨vs, hv, hev, hl1⟩ := plainOf_tells M hx
          obtain ⟨v, vs', b1, b2, rfl, hbb, hov, rfl, rfl⟩ := hv
          obtain ⟨ad, cap, hsl, hcap, hor⟩ := hov.1
          simp only [mkV, cond_false, List.headD_cons] at hev
          rw [hsl] at hev
          have hb := bounds M true n cap h1 h2 hp.1 hp.2.1 hp.2.2 hcap
          have hrun : (execOp a.eval o).run cx.P w = .ok (.value (.slice (if cap = l.toNat then ad else ad.map (·.add (l.toNat * (cx.T et).size))) (u.toNat - l.toNat) (cap - l.toNat))) w := by
            simp [execOp, ho, Instr.sliceAt, run_underlying hu, Instr.slice, hev, hb, tye.sizeOf]
          refine ⟨_, hrun, one_own ⟨?_, rfl⟩, trivial⟩
          refine ⟨_, _, rfl, by omega, ?_⟩
          by_cases hz : u.toNat - l.toNat = 0
          · exact .inl hz
          · right
            have hn0 : n ≠ 0 := by omega
            rcases hor with h0 | ⟨b, off, had, hf⟩
            · exact absurd h0 hn0
            · have hsz : sz = (cx.T et).size := by
                simp only [Bool.or_eq_true] at hq
                rcases hq with hq | hq
                · exact Nat.eq_of_beq_eq_true hq
                · exact absurd (Nat.eq_of_beq_eq_true hq) hn0
              refine ⟨b, off + l.toNat * sz, ?_, fun j i hj hi => ?_⟩
              · rw [if_neg (by omega), had, ← hsz]; simp [add_eq]
              · obtain ⟨z, hz1, hz2⟩ := hf (l.toNat + j) i (by omega) hi
                refine ⟨z, ?_, hz2⟩
                rw [Nat.add_mul] at hz1
                rw [show off + l.toNat * sz + (j * sz + i) = off + (l.toNat * sz + j * sz + i) by omega]
                exact hz1
        · cases hc
    · unfold sliceOwnE at hc
      split at hc
      · rename_i rd r sz n f hx
        cases hq : (noC r.c && Nat.beq sz (cx.T et).size) with
        | false => rw [hq] at hc; simp at hc
        | true =>
          rw [hq] at hc
          simp only [cond_true] at hc
          simp only [Bool.and_eq_true] at hq
          split at hc
          · rename_i r1 l r2 u h1 h2
            simp only [Option.some.injEq] at hc
            subst hc
            simp only at hp
            have hrc : r.c = none := by
              cases hr : r.c with
              | none => rfl
              | some i => rw [hr] at hq; cases hq.1
            have hsz := Nat.eq_of_beq_eq_true hq.2
            rintro a w ⟨h, bs, M⟩
            obtain ⟨b0, hown, hroot⟩ := sliceOf_tells M hx
            obtain ⟨hat, hrv⟩ := hroot r sz n f rfl rfl
            have hg : g r.s = some (r.k, .one false [.own sz n f]) := by
              unfold atRoot at hat
              rw [hrc] at hat
              cases hgr : g r.s with
              | none => rw [hgr] at hat; cases hat
              | some p =>
                obtain ⟨k, y⟩ := p
                rw [hgr] at hat
                simp only [beq_eq, cond_eq_ite] at hat
                split at hat
                · rename_i hk9
                  have hk9 : k = r.k := by simpa using hk9
                  subst hk9
                  cases y with
                  | one ag cs =>
                    cases ag with
                    | true => simp at hat
                    | false =>
                      match cs, hat with
                      | [c], hat => injection hat with hat; subst hat; rfl
                      | [], hat => simp at hat
                      | _ :: _ :: _, hat => simp at hat
                  | _ => simp at hat
                · cases hat
            obtain ⟨v, hv, ht, _⟩ := M.slot r.s _ _ hg
            have hev : a.eval x = v := by
              unfold rootV at hrv
              rw [hrc] at hrv
              simp only at hrv
              rw [hv] at hrv
              injection hrv with hrv
              exact hrv.symm
            obtain ⟨b, p, cap, cells, e', hv1, hcap, hhb, hcs, hf, hbq, hfree⟩ := own_one ht
            have hb := bounds M true n cap h1 h2 hp.1 hp.2.1 hp.2.2 hcap
            have hrun : (execOp a.eval o).run cx.P w = .ok (.value (.slice (if cap = l.toNat then some ⟨b, p, none⟩ else some ⟨b, p + l.toNat * (cx.T et).size, none⟩) (u.toNat - l.toNat) (cap - l.toNat))) w := by
              simp [execOp, ho, Instr.sliceAt, run_underlying hu, Instr.slice, hev, hv1, hb, tye.sizeOf, add_eq]
            have hval : ∃ q, (if cap = l.toNat then some (⟨b, p, none⟩ : Addr) else some ⟨b, p + l.toNat * (cx.T et).size, none⟩) = some ⟨b, q, none⟩ ∧ q + (cap - l.toNat) * sz ≤ cells.size ∧ (u.toNat - l.toNat ≠ 0 → q = p + l.toNat * sz) := by
              by_cases hcl : cap = l.toNat
              · refine ⟨p, by rw [if_pos hcl], by rw [hcl, Nat.sub_self, Nat.zero_mul]; omega, fun h => ?_⟩
                omega
              · refine ⟨p + l.toNat * sz, by rw [if_neg hcl, hsz], ?_, fun _ => rfl⟩
                have : l.toNat * sz + (cap - l.toNat) * sz = cap * sz := by rw [← Nat.add_mul]; congr 1; omega
                omega
            obtain ⟨q, hq1, hq2, hq3⟩ := hval
            rw [hq1] at hrun
            refine ⟨_, w, _, hrun, .inl rfl, ?_⟩
            refine M.take hd hg (fun u hu => ⟨rfl, trivial⟩) (fun t cs' h => by cases h) (fun c hc => by rw [noOwn_no] at hc; cases hc) (one_own ⟨b, q, cap - l.toNat, cells, e', rfl, by omega, hhb, hq2, fun j i hj hi => ?_, hbq, hfree⟩) trivial
            obtain ⟨z, hz1, hz2⟩ := hf (l.toNat + j) i (by omega) hi
            refine ⟨z, ?_, hz2⟩
            rw [hq3 (by omega)]
            rw [Nat.add_mul] at hz1
            rw [show p + l.toNat * sz + (j * sz + i) = p + (l.toNat * sz + j * sz + i) by omega]
            exact hz1
          · cases hc
      · cases hc
  · rename_i n et hk
    have hu : cx.P.underlying t = some (.array n et) := by
      have := (hT.k (t := t) (by rw [hk]; exact fun h => by cases h)).under
      rw [hk] at this; exact this
    cases hlo : lo with
    | some y => rw [hlo] at hc; simp [noO] at hc
    | none =>
    cases hhi : hi with
    | some y => rw [hhi] at hc; simp [noO] at hc
    | none =>
    rw [hlo, hhi] at hc
    simp only [noO, Bool.and_self, cond_true] at hc
    unfold sliceArrE at hc
    split at hc
    · rename_i rd s k hx
      cases hb : boxAt g s k with
      | none => rw [hb] at hc; cases hc
      | some p =>
        obtain ⟨bt, cs⟩ := p
        rw [hb] at hc
        simp only at hc
        cases hq : (kn cx.T et && (Nat.beq cs.length (n * (cx.T et).size) && cs.all C.isD)) with
        | false => rw [hq] at hc; cases hc
        | true =>
          rw [hq] at hc
          simp only [cond_true, Option.some.injEq] at hc
          subst hc
          simp only [Bool.and_eq_true] at hq
          have tye := hT.kn hq.1
          have hlen := Nat.eq_of_beq_eq_true hq.2.1
          rintro a w ⟨h, bs, M⟩
          obtain ⟨_, hr, _⟩ := addrOf_tells M hx
          have hg := boxAt_spec hb
          obtain ⟨b, vs, bs', hev, hts, hh, hown, hbs, hfree⟩ := adr_box M hr hg
          have hnil := hown.plainBs hq.2.2
          subst hnil
          have hvl := hown.length
          have hle : h.le (h.ext b fun i => vs[i]?) := ⟨fun b' i v hv => by
            show (if b' = b then vs[i]? else h.c b' i) = some v
            by_cases e : b' = b
            · subst e; rw [hfree.c i] at hv; cases hv
            · rw [if_neg e]; exact hv, fun _ _ h => h⟩
          have hholds : (h.ext b fun i => vs[i]?).holds w := ⟨fun b' i v hv => by
            have hv : (if b' = b then vs[i]? else h.c b' i) = some v := hv
            by_cases e : b' = b
            · subst e
              rw [if_pos rfl] at hv
              rw [cell_of_row w b' i _ bt (0, 0) hh]; simpa using hv
            · rw [if_neg e] at hv; exact M.holds.c _ _ _ hv, M.holds.g, fun b' l i hg' => by
            show (if b' = b then vs[i]? else h.c b' i) = none
            by_cases e : b' = b
            · subst e
              have : h.g b' = some l := hg'
              rw [hfree.g] at this; cases this
            · rw [if_neg e]; exact M.holds.ap _ _ _ hg'⟩
          have hbm : b ∈ bs s := by rw [hbs]; simp
          have M1 := M.refine hle hholds (fun b' hb' hl i => by
            show (if b' = b then vs[i]? else h.c b' i) = h.c b' i
            by_cases e : b' = b
            · subst e; exact ((M.mine s b' hbm).elim (fun h => by omega) hl).elim
            · rw [if_neg e]) (fun _ => rfl) hg (x := .no) (pb := []) (fun u _ => ⟨rfl, trivial⟩) List.nodup_nil (fun b hb => by cases hb) (fun t cs' h => by cases h) (fun c h => by rw [noOwn_no] at h; cases h)
            (fun q hqs => ⟨fun _ _ => rfl, fun b' hb' i => by
              show (if b' = b then vs[i]? else h.c b' i) = h.c b' i
              by_cases e : b' = b
              · subst e; exact (M.disj q s hqs b' hb' hbm).elim
              · rw [if_neg e], fun _ _ => rfl⟩)
          have hrun : (execOp a.eval o).run cx.P w = .ok (.value (.slice (some ⟨b, 0, none⟩) n n)) w := by
            simp [execOp, ho, hlo, hhi, Instr.sliceAt, run_underlying hu, Instr.sureAddr, hev, Instr.sliceBounds, tye.sizeOf, add_eq]
          refine ⟨_, w, _, hrun, .inl rfl, ?_⟩
          refine M1.fin0 hd (one_own ⟨⟨_, n, rfl, Nat.le_refl _, .inr ⟨b, 0, rfl, fun j i hj hi => ?_⟩⟩, rfl⟩) trivial
          have hji : j * (cx.T et).size + i < cs.length := by
            rw [hlen]
            have : (j + 1) * (cx.T et).size ≤ n * (cx.T et).size := Nat.mul_le_mul_right _ hj
            rw [Nat.add_mul] at this
            omega
          have hcs : cs[j * (cx.T et).size + i]? = some cs[j * (cx.T et).size + i] := by simp [hji]
          obtain ⟨v, b1, hv, hov, _⟩ := hown.at hcs
          have hd' : cs[j * (cx.T et).size + i].isD = true := (List.all_eq_true.1 hq.2.2) _ (List.getElem_mem hji)
          have hrow : rowF (cx.T et).size cs j i = cellD (cs[j * (cx.T et).size + i].plain) := by
            simp only [rowF, List.getD, hcs, Option.getD_some]
          refine ⟨v, by show (if b = b then vs[0 + (j * (cx.T et).size + i)]? else _) = _; rw [if_pos rfl, Nat.zero_add]; exact hv, ?_⟩
          rw [hrow]
          generalize cs[j * (cx.T et).size + i] = c at hd' hov
          cases c with
          | d x => exact hov.1.mono hle
          | own sz n f => cases hd'
          | app sz n f => cases hd'
    · cases hc
  · cases hc

theorem good_len (hT : TabOk cx.P cx.T) (hd : DstOk cx o.dst) {t : TypeId} {x : Operand} (ho : o.op = .call { callee := .builtin .len, args := #[x], argTypes := #[t] }) (hc : lenE cx.T g t x = some e) : Good cx g o e := by
  unfold lenE at hc
  split at hc
  · rename_i hk
    have hu : cx.P.underlying t = some .string := by
      have := (hT.k (t := t) (by rw [hk]; exact fun h => by cases h)).under
      rw [hk] at this; exact this
    split at hc
    · rename_i rd s hx
      simp only [eff, Option.some.injEq] at hc
      subst hc
      refine good_value hd fun a w h bs M => ⟨_, ?_, oneD_tells (v := .int .i64 s.size) rfl, trivial⟩
      simp [execOp, ho, resolve, invoke, builtin, Builtin.len_, run_underlying hu, (scal_val M hx).1, goInt]
    · cases hc
  · rename_i et hk
    obtain ⟨hu, tyt⟩ := hT.sl hk
    have hrun : ∀ (a : Act) (w : World) (ad : Option Addr) (n cap : Nat), a.eval x = .slice ad n cap → (execOp a.eval o).run cx.P w = .ok (.value (.int .i64 n)) w := by
      intro a w ad n cap hev
      simp [execOp, ho, resolve, invoke, builtin, Builtin.len_, run_underlying hu, hev, goInt]
    split at hc
    · rename_i rd r sz n f hx
      simp only [eff, Option.some.injEq] at hc
      subst hc
      refine good_value hd fun a w h bs M => ?_
      obtain ⟨b0, ⟨⟨ad, cap, hev, _⟩, _⟩, _⟩ := sliceOf_tells M hx
      exact ⟨_, hrun a w ad n cap hev, oneD_tells rfl, trivial⟩
    · rename_i rd r sz n f hx
      simp only [eff, Option.some.injEq] at hc
      subst hc
      refine good_value hd fun a w h bs M => ?_
      obtain ⟨b0, ⟨b, p, cap, cells, et', hev, _⟩, _⟩ := sliceOf_tells M hx
      exact ⟨_, hrun a w _ n cap hev, oneD_tells rfl, trivial⟩
    · rename_i rd r sz n f hx
      simp only [eff, Option.some.injEq] at hc
      subst hc
      refine good_value hd fun a w h bs M => ?_
      obtain ⟨b0, hown, _⟩ := sliceOf_tells M hx
      obtain ⟨⟨ad, cap, hev, _⟩, _⟩ := hown.view rfl
      exact ⟨_, hrun a w ad n cap hev, oneD_tells rfl, trivial⟩
    · cases hc
  · rename_i n et hk
    have hu : cx.P.underlying t = some (.array n et) := by
      have := (hT.k (t := t) (by rw [hk]; exact fun h => by cases h)).under
      rw [hk] at this; exact this
    split at hc
    · simp only [eff, Option.some.injEq] at hc
      subst hc
      refine good_value hd fun a w h bs M => ⟨_, ?_, oneD_tells (v := .int .i64 n) rfl, trivial⟩
      simp [execOp, ho, resolve, invoke, builtin, Builtin.len_, run_underlying hu, goInt]
    · cases hc
  · cases hc

theorem good_minMax (hd : DstOk cx o.dst) {mx : Bool} {x y : Operand} {ts : Array TypeId} (ho : o.op = .call { callee := .builtin (bif mx then .max else .min), args := #[x, y], argTypes := ts }) (hc : minMaxE g mx x y = some e) : Good cx g o e := by
  unfold minMaxE at hc
  split at hc
  · rename_i r1 k a1 r2 k' b1 h1 h2
    cases hq : (k == k') with
    | false => rw [hq] at hc; simp at hc
    | true =>
      rw [hq] at hc
      simp only [cond_true, eff, Option.some.injEq] at hc
      subst hc
      refine good_value hd fun a w h bs M => ⟨_, ?_, oneD_tells (v := .int k (bif mx then (if b1 > a1 then b1 else a1) else (if b1 < a1 then b1 else a1))) rfl, trivial⟩
      cases mx with
      | true => simp [execOp, ho, resolve, invoke, builtin, Builtin.max_, Builtin.max2, (scal_val M h1).1, (scal_val M h2).1]
      | false => simp [execOp, ho, resolve, invoke, builtin, Builtin.min_, Builtin.min2, (scal_val M h1).1, (scal_val M h2).1]
  · cases hc
end Go.X
