/- Part 12 of the proof of BackSums: From a path through the whole body to the function's contract. The table of types is read off the program. Words by which functions' paths are told. A contract whose result is mutable holds for the frozen result too. Short words for paths. What reads plain slices and answers a scalar may be handed mutable ones: they come back as they were. A second argument that is only read may be mutable too. The program. No conditions but those that each theorem names. -/
import Derived.Test.YthmecihkgdaffaaGreatDoorP11
import Derived.KernelRfl
import Derived.Test.YthmecihkgdaffaaGreatDoorProg
namespace Go.X
open Go

def resCells (T : Tab) (g : Lk) : ResultVar → Option (Nat × Bool × List C)
  | .tmp t => match g t with
    | some (_, .one ag cs) => some (t, ag, cs)
    | some (_, .ref r) => match r.c, g r.s with
      | none, some (k, .one false [.own sz n f]) => bif Nat.beq k r.k then some (r.s, false, [.own sz n f]) else none
      | _, _ => none
    | _ => none
  | .cell a t => match g a with
    | some (_, .box _ cs) => bif kn T t && Nat.beq cs.length (T t).size then some (a, aggK (T t).k, cs) else none
    | _ => none
def resAll (T : Tab) (g : Lk) : List ResultVar → List Nat → Option (List (Bool × List C))
  | [], _ => some []
  | r :: rs, used => match resCells T g r with
    | some (s, ag, cs) => bif inL used s then none else match resAll T g rs (s :: used) with
      | some l => some ((ag, cs) :: l)
      | none => none
    | none => none
def resS : List (Bool × List C) → S
  | [(ag, cs)] => .one ag cs
  | l => .tup l
def entry : Nat → List S → List (Nat × S)
  | _, [] => []
  | i, x :: xs => (i, x) :: entry (i + 1) xs
def argsOk (pl : List Nat) : Nat → List S → Bool
  | _, [] => true
  | i, x :: xs => (bif inL pl i then ownish x else (plainS x || ownish x)) && argsOk pl (i + 1) xs
def outsOf (g : Lk) (pl : List Nat) : Nat → List S → Option (List S)
  | _, [] => some []
  | i, x :: xs => match outsOf g pl (i + 1) xs with
    | some l => bif inL pl i then match g i with
        | some (_, y) => bif firm y then some (y :: l) else none
        | none => none
      else some ((bif plainS x then x else .no) :: l)
    | none => none
def finE (T : Tab) (gout : List (Nat × S)) (rs : List ResultVar) (args : List S) (pl : List Nat) : Option (List S × S) :=
  bif !argsOk pl 0 args then none else
  match outsOf (stGet (st0 gout)) pl 0 args, resAll T (stGet (st0 gout)) rs pl with
  | some o, some l => some (o, resS l)
  | _, _ => none

def Comps (h : Hp) (w : World) : List (Bool × List C) → List Value → List Nat → Prop
  | [], vs, bs => vs = [] ∧ bs = []
  | (ag, cs) :: xs, vs, bs => ∃ v vs' b1 b2, vs = v :: vs' ∧ bs = b1 ++ b2 ∧ CompTells h w ag cs v b1 ∧ Comps h w xs vs' b2
theorem Comps.tup {h : Hp} {w : World} : ∀ {xs : List (Bool × List C)} {vs : List Value} {bs : List Nat}, Comps h w xs vs bs → TupTells h w xs vs bs
  | [], _, _, hc => hc
  | (_, _) :: _, _, _, ⟨v, vs', b1, b2, h1, h2, h3, h4⟩ => ⟨v, vs', b1, b2, h1, h2, .inr h3, h4.tup⟩
theorem Comps.tells {h : Hp} {w : World} {xs : List (Bool × List C)} {vs : List Value} {bs : List Nat} (hc : Comps h w xs vs bs) :
    Tells h w (resS xs) (if h : vs.toArray.size = 1 then vs.toArray[0] else .tuple vs.toArray) bs := by
  match xs, hc with
  | [], ⟨h1, h2⟩ => subst h1; subst h2; exact ⟨[], rfl, rfl, rfl⟩
  | [(ag, cs)], ⟨v, vs', b1, b2, h1, h2, h3, h4, h5⟩ =>
    subst h1; subst h2; subst h4; subst h5
    rw [List.append_nil]; exact h3
  | (ag, cs) :: (ag', cs') :: xs, hc =>
    have ht := hc.tup
    obtain ⟨v, vs', b1, b2, rfl, _, _, v2, vs2, _, _, rfl, _⟩ := hc
    rw [dif_neg (by simp)]
    exact ⟨_, rfl, ht⟩

variable {cx : Cx} {k : Hp} {bs : Nat → List Nat} {g : Lk} {a : Act} {w : World}

def resOne (tmps : Array Value) : ResultVar → Sem Value
  | .tmp t => pure (tmps.getD t undef)
  | .cell x t => do loadVar t (← asAddr (tmps.getD x undef))
theorem resCells_ok (hT : TabOk cx.P cx.T) (M : SimW cx k bs g a w) {r : ResultVar} {s : Nat} {ag : Bool} {cs : List C} (hc : resCells cx.T g r = some (s, ag, cs)) :
    ∃ v b, (resOne a.tmps r).run cx.P w = .ok v w ∧ CompTells k w ag cs v b ∧ b.Sublist (bs s) := by
  unfold resCells at hc
  split at hc
  · rename_i t
    split at hc
    · rename_i kk ag' cs' hg
      simp only [Option.some.injEq, Prod.mk.injEq] at hc
      obtain ⟨rfl, rfl, rfl⟩ := hc
      obtain ⟨v, hv, ht, _⟩ := M.slot _ _ _ hg
      exact ⟨v, bs t, by simp [resOne, hv], ht, List.Sublist.refl _⟩
    · rename_i k1 r hg
      split at hc
      · rename_i kk sz n f hrc hgr
        cases hb : Nat.beq kk r.k with
        | false => rw [hb] at hc; simp at hc
        | true =>
          rw [hb] at hc
          simp only [cond_true, Option.some.injEq, Prod.mk.injEq] at hc
          obtain ⟨rfl, rfl, rfl⟩ := hc
          obtain ⟨v, hv, _, hr⟩ := M.slot _ _ _ hg
          obtain ⟨k2, y, f1, _, f3⟩ := hr
          rw [hgr] at f1
          injection f1 with f1; injection f1 with f1 f4; subst f1
          have := f3 (Nat.eq_of_beq_eq_true hb) (.inl hrc)
          unfold rootV at this
          rw [hrc] at this
          simp only at this
          obtain ⟨v', hv', ht, _⟩ := M.slot _ _ _ hgr
          rw [this] at hv'; injection hv' with hv'; subst hv'
          exact ⟨v, bs r.s, by simp [resOne, hv], ht, List.Sublist.refl _⟩
      · cases hc
    · cases hc
  · rename_i x t
    split at hc
    · rename_i kk bt cs' hg
      cases hq : (kn cx.T t && Nat.beq cs'.length (cx.T t).size) with
      | false => rw [hq] at hc; simp at hc
      | true =>
        rw [hq] at hc
        simp only [cond_true, Option.some.injEq, Prod.mk.injEq] at hc
        obtain ⟨rfl, rfl, rfl⟩ := hc
        simp only [Bool.and_eq_true] at hq
        have hlen := Nat.eq_of_beq_eq_true hq.2
        obtain ⟨v, hv, ⟨b, vs, bs', rfl, hh, ho, hbs, hf⟩, _⟩ := M.slot _ _ _ hg
        have hl : vs.length = (cx.T t).size := by rw [ho.length, hlen]
        have := loadVar_run (cx := cx) hT hq.1 (b := b) (o' := 0) (vs := vs) (w := w) hl (fun i u hu => by
          rw [Nat.zero_add, cell_of_row w b i _ bt (0, 0) hh]; simpa using hu)
        refine ⟨mkV (aggK (cx.T t).k) vs, bs', by simp [resOne, hv, asAddr, this], ⟨vs, ho, rfl, fun e => ?_⟩, ?_⟩
        · rw [hlen]; exact (hT.kn hq.1).one e
        · rw [hbs]; exact List.sublist_cons_self b bs'
    · cases hc
theorem resAll_ok (hT : TabOk cx.P cx.T) (M : SimW cx k bs g a w) : ∀ {rs : List ResultVar} {used : List Nat} {l : List (Bool × List C)}, resAll cx.T g rs used = some l →
    ∃ vs b, (rs.mapM (resOne a.tmps)).run cx.P w = .ok vs w ∧ Comps k w l vs b ∧ b.Nodup ∧ ∀ x ∈ b, ∃ s, s ∉ used ∧ x ∈ bs s
  | [], used, l, hc => by
    simp only [resAll, Option.some.injEq] at hc
    subst hc
    exact ⟨[], [], by simp, ⟨rfl, rfl⟩, List.nodup_nil, fun x hx => by cases hx⟩
  | r :: rs, used, l, hc => by
    simp only [resAll, cond_eq_ite] at hc
    split at hc
    · rename_i s ag cs h1
      split at hc
      · cases hc
      · rename_i hu
        split at hc
        · rename_i l' h2
          injection hc with hc; subst hc
          obtain ⟨v, b1, e1, e2, e3⟩ := resCells_ok hT M h1
          obtain ⟨vs, b2, f1, f2, f3, f4⟩ := resAll_ok hT M h2
          refine ⟨v :: vs, b1 ++ b2, by simp [List.mapM_cons, e1, f1], ⟨v, vs, b1, b2, rfl, rfl, e2, f2⟩, ?_, fun x hx => ?_⟩
          · refine List.nodup_append.2 ⟨(M.nodup s).sublist e3, f3, fun x hx y hy he => ?_⟩
            subst he
            obtain ⟨t, ht, hxt⟩ := f4 x hy
            exact M.disj s t (fun e => ht (by rw [e]; simp)) x (e3.subset hx) hxt
          · rcases List.mem_append.1 hx with hx | hx
            · exact ⟨s, fun hs => hu (inL_iff.2 hs), e3.subset hx⟩
            · obtain ⟨t, ht, hxt⟩ := f4 x hx
              exact ⟨t, fun hc => ht (by simp [hc]), hxt⟩
        · cases hc
    · cases hc

theorem outsOf_ok {h0 : Hp} {w0 : World} (M : SimW cx k bs g a w) (hk : h0.le k) {pl : List Nat} : ∀ {args outs : List S} {i : Nat} {vs : List Value} {b0 : List Nat}, argsOk pl i args = true → outsOf g pl i args = some outs → Alls h0 w0 args vs b0 →
    (∀ (j : Nat) (v : Value), vs[j]? = some v → inL pl (i + j) = true → a.tmps[i + j]? = some v) →
    ∃ bo, Alls k w outs vs bo ∧ bo.Nodup ∧ ∀ x ∈ bo, ∃ j, i ≤ j ∧ j ∈ pl ∧ x ∈ bs j
  | [], outs, i, vs, b0, _, hc, ha, _ => by
    simp only [outsOf, Option.some.injEq] at hc
    subst hc
    exact ⟨[], ⟨ha.1, rfl⟩, List.nodup_nil, fun x hx => by cases hx⟩
  | x :: xs, outs, i, vs, b0, hok, hc, ⟨v, vs', b1, b2, hv, hb, ht, ha⟩, hp => by
    subst hv
    simp only [argsOk, Bool.and_eq_true] at hok
    simp only [outsOf] at hc
    split at hc
    · rename_i l hl
      obtain ⟨bo, i1, i2, i3⟩ := outsOf_ok M hk hok.2 hl ha (fun j u hj hin => by
        have := hp (j + 1) u (by simpa using hj) (by rw [show i + (j + 1) = i + 1 + j by omega]; exact hin)
        rw [show i + 1 + j = i + (j + 1) by omega]; exact this)
      cases hin : inL pl i with
      | true =>
        rw [hin] at hc
        simp only [cond_true] at hc
        split at hc
        · rename_i kk y hg
          cases hf : firm y with
          | false => rw [hf] at hc; simp at hc
          | true =>
            rw [hf] at hc
            simp only [cond_true, Option.some.injEq] at hc
            subst hc
            obtain ⟨u, hu, hty, _⟩ := M.slot _ _ _ hg
            have := hp 0 v rfl hin
            rw [Nat.add_zero, hu] at this
            injection this with this; subst this
            refine ⟨bs i ++ bo, ⟨u, vs', bs i, bo, rfl, rfl, hty, i1⟩, ?_, fun z hz => ?_⟩
            · refine List.nodup_append.2 ⟨M.nodup i, i2, fun z hz z' hz' he => ?_⟩
              subst he
              obtain ⟨j, hj, _, hzj⟩ := i3 z hz'
              exact M.disj i j (by omega) z hz hzj
            · rcases List.mem_append.1 hz with hz | hz
              · exact ⟨i, Nat.le_refl _, inL_iff.1 hin, hz⟩
              · obtain ⟨j, hj, h1, h2⟩ := i3 z hz
                exact ⟨j, by omega, h1, h2⟩
        · cases hc
      | false =>
        rw [hin] at hc hok
        simp only [cond_false, Option.some.injEq] at hc hok
        subst hc
        cases hpl : plainS x with
        | false => exact ⟨bo, ⟨v, vs', [], bo, rfl, rfl, rfl, i1⟩, i2, fun z hz => by
            obtain ⟨j, hj, h1, h2⟩ := i3 z hz
            exact ⟨j, by omega, h1, h2⟩⟩
        | true =>
        simp only [cond_true]
        cases x with
        | one ag cs =>
          obtain ⟨us, o1, o2, o3⟩ := ht
          have hb1 := o1.plainBs hpl
          subst hb1
          refine ⟨bo, ⟨v, vs', [], bo, rfl, rfl, ⟨us, o1.keep hk ⟨fun b hb => (by cases hb), fun b hb => (by cases hb), fun b hb => (by cases hb)⟩, o2, o3⟩, i1⟩, i2, fun z hz => ?_⟩
          obtain ⟨j, hj, h1, h2⟩ := i3 z hz
          exact ⟨j, by omega, h1, h2⟩
        | _ => simp [plainS] at hpl
    · cases hc

theorem Alls.split {h : Hp} {w : World} : ∀ {args : List S} {vs : List Value} {b : List Nat}, Alls h w args vs b → b.Nodup →
    vs.length = args.length ∧ ∃ bf : Nat → List Nat, (∀ (i : Nat) (x : S), args[i]? = some x → ∃ v, vs[i]? = some v ∧ Tells h w x v (bf i)) ∧ (∀ i, (bf i).Nodup) ∧ (∀ i y, y ∈ bf i → y ∈ b) ∧ ∀ i j, i ≠ j → ∀ y, y ∈ bf i → y ∈ bf j → False
  | [], vs, b, ha, _ => ⟨by simp [ha.1], fun _ => [], fun i x h => (by simp at h), fun _ => List.nodup_nil, fun i y h => (by cases h), fun i j _ y h => (by cases h)⟩
  | x :: xs, _, _, ⟨v, vs', b1, b2, hv, hb, ht, ha⟩, hn => by
    subst hv; subst hb
    obtain ⟨n1, n2, n3⟩ := List.nodup_append.1 hn
    obtain ⟨hl, bf, h1, h2, h3, h4⟩ := Alls.split ha n2
    refine ⟨by simp [hl], fun i => match i with | 0 => b1 | i + 1 => bf i, fun i y hy => ?_, fun i => ?_, fun i y hy => ?_, fun i j hij y hi hj => ?_⟩
    · cases i with
      | zero => simp only [List.getElem?_cons_zero, Option.some.injEq] at hy; subst hy; exact ⟨v, rfl, ht⟩
      | succ i => simp only [List.getElem?_cons_succ] at hy ⊢; exact h1 i y hy
    · cases i with
      | zero => exact n1
      | succ i => exact h2 i
    · cases i with
      | zero => simp only at hy; simp [hy]
      | succ i => have := h3 i y hy; simp [this]
    · cases i with
      | zero =>
        cases j with
        | zero => exact hij rfl
        | succ j => exact n3 y hi y (h3 j y hj) rfl
      | succ i =>
        cases j with
        | zero => exact n3 y hj y (h3 i y hi) rfl
        | succ j => exact h4 i j (fun e => hij (by rw [e])) y hi hj
theorem entry_get : ∀ {args : List S} {i s k : Nat} {x : S}, stGet (st0 (entry i args)) s = some (k, x) → k = 0 ∧ i ≤ s ∧ args[s - i]? = some x
  | [], i, s, k, x, h => by simp [entry, st0, stGet] at h
  | y :: ys, i, s, k, x, h => by
    simp only [entry, st0, List.map_cons, stGet, beq_eq] at h
    by_cases hi : i = s
    · subst hi
      simp only [decide_true, cond_true, Option.some.injEq, Prod.mk.injEq] at h
      obtain ⟨rfl, rfl⟩ := h
      exact ⟨rfl, Nat.le_refl _, by simp⟩
    · simp only [hi, decide_false, cond_false] at h
      obtain ⟨h1, h2, h3⟩ := entry_get (args := ys) (i := i + 1) h
      refine ⟨h1, by omega, ?_⟩
      rw [show s - i = (s - (i + 1)) + 1 by omega, List.getElem?_cons_succ]; exact h3

theorem outsOf_len {g : Lk} {pl : List Nat} : ∀ {args outs : List S} {i : Nat}, outsOf g pl i args = some outs → outs.length = args.length
  | [], outs, i, h => by simp only [outsOf, Option.some.injEq] at h; subst h; rfl
  | x :: xs, outs, i, h => by
    simp only [outsOf, cond_eq_ite] at h
    split at h
    · rename_i l hl
      have := outsOf_len hl
      repeat' split at h
      all_goals first | (cases h; done) | (injection h with h; subst h; simp [this])
    · cases h

theorem results_eq (fn : Func) (tmps : Array Value) : results fn tmps = (do
    let vs ← List.toArray <$> fn.results.toList.mapM (resOne tmps)
    pure (if h : vs.size = 1 then vs[0] else .tuple vs)) := by
  have key : ∀ f g : ResultVar → Sem Value, (∀ r, f r = g r) → fn.results.mapM f = List.toArray <$> fn.results.toList.mapM g := fun f g h => by
    rw [funext h, Array.mapM_eq_mapM_toList]
  unfold results
  rw [key _ (resOne tmps) (fun r => by cases r <;> rfl)]
/-- THE JOIN: a path through the whole body gives the contract. -/
theorem den_of_goes {P : Program} {V : Env} {f : FuncId} {fn : Func} {c : Code} {args outs : List S} {res : S} {gout : List (Nat × S)} {e : Fin}
    (hT : TabOk P V.T) (hM : ∀ t m f v w, V.M t m = some f → (method (P.types.size + Made.depth) t v m).run P w = .ok (f, v) w) (hK : ∀ f a o r, V.K f a o r → Den P f a o r)
    (hf : P.funcs[f]? = some fn) (hb : fn.body = some c) (hn : (fn.name == "runtime.NumGoroutine") = false) (hnt : V.n = fn.ntmps) (hle : args.length ≤ fn.ntmps)
    (hfin : finE V.T gout fn.results.toList args V.pl = some (outs, res))
    (hg : Goes V c (entry 0 args) e gout) (he : e = .normal ∨ e = .ret) : Den P f args outs res := by
  intro h w vs bs hh hal hnd hlt
  unfold finE at hfin
  cases hok : argsOk V.pl 0 args with
  | false => rw [hok] at hfin; simp at hfin
  | true =>
  rw [hok] at hfin
  simp only [Bool.not_true, cond_false] at hfin
  split at hfin
  rotate_left
  · cases hfin
  rename_i os l hos hrs
  simp only [Option.some.injEq, Prod.mk.injEq] at hfin
  obtain ⟨rfl, rfl⟩ := hfin
  right
  constructor
  · have hn' : ¬fn.name = "runtime.NumGoroutine" := by intro h; rw [h] at hn; simp at hn
    simp [callFunc, hf, hb, hn']
  obtain ⟨hlen, bf, b1, b2, b3, b4⟩ := hal.split hnd
  let cx : Cx := { P, T := V.T, n := V.n, h0 := h, w0 := w, pin := fun s => if inL V.pl s then vs[s]? else none, lb := bs }
  have hV : EnvOk cx V := ⟨hM, rfl, hT, rfl, fun t ht => by show (if inL V.pl t then _ else none) = none; rw [ht]; rfl, hK⟩
  let tmps : Array Value := vs.toArray ++ Array.replicate (fn.ntmps - vs.toArray.size) undef
  have hget : ∀ (s : Nat) (v : Value), vs[s]? = some v → tmps[s]? = some v := by
    intro s v hv
    have hs : s < vs.toArray.size := by simpa using (List.getElem?_eq_some_iff.1 hv).1
    show (vs.toArray ++ _)[s]? = _
    rw [Array.getElem?_append_left hs]; simpa using hv
  have M : SimW cx h (fun s => if s < args.length then bf s else []) (stGet (st0 (entry 0 args))) { tmps, defers := [] } w := by
    refine ⟨Hp.le.refl h, fun _ _ _ _ => rfl, fun _ _ => rfl, hh, ⟨rfl, rfl, rfl, Nat.le_refl _, fun _ _ _ => rfl⟩, rfl, ?_, ?_, ?_, ?_, ?_, ?_, ?_⟩
    · show (vs.toArray ++ Array.replicate _ _).size = V.n
      simp [hlen]; omega
    · intro s k x hx
      obtain ⟨_, _, hx⟩ := entry_get hx
      rw [Nat.sub_zero] at hx
      obtain ⟨v, hv, ht⟩ := b1 s x hx
      have hs : s < args.length := (List.getElem?_eq_some_iff.1 hx).1
      refine ⟨v, hget s v hv, by simp only [if_pos hs]; exact ht, ?_⟩
      have : ∀ (i : Nat) (l : List S) (j : Nat) (x : S), argsOk V.pl i l = true → l[j]? = some x → firm x = true := by
        intro i l
        induction l generalizing i with
        | nil => intro j x _ hx; simp at hx
        | cons y ys ih =>
          intro j x h hx
          simp only [argsOk, Bool.and_eq_true] at h
          cases j with
          | zero =>
            simp only [List.getElem?_cons_zero, Option.some.injEq] at hx
            subst hx
            have h1 := h.1
            cases y <;> first | rfl | (exfalso; revert h1; cases inL V.pl i <;> simp [plainS, ownish])
          | succ j => simp only [List.getElem?_cons_succ] at hx; exact ih (i + 1) j x h.2 hx
      exact firm_refs (this 0 args s x hok hx)
    · intro s
      show (if s < args.length then bf s else []).Nodup
      split
      · exact b2 s
      · exact List.nodup_nil
    · intro s t hst b h1 h2
      split at h1
      · split at h2
        · exact b4 s t hst b h1 h2
        · cases h2
      · cases h1
    · intro s b hb
      split at hb
      · exact .inr (b3 s b hb)
      · cases hb
    · intro s b hb
      split at hb
      · exact hlt b (b3 s b hb)
      · cases hb
    · intro s v hv
      have hv : (if inL V.pl s then vs[s]? else none) = some v := hv
      split at hv
      · exact hget s v hv
      · cases hv
  refine calls_of_wp hf hb ?_
  refine hg cx hV _ _ w ⟨h, _, M⟩ fun a' w' hs => ?_
  obtain ⟨k, bs', M'⟩ := hs
  obtain ⟨rvs, br, r1, r2, r3, r4⟩ := resAll_ok (cx := cx) hT M' hrs
  obtain ⟨bo, o1, o2, o3⟩ := outsOf_ok M' M'.le hok hos hal (fun j v hj hin => by
    rw [Nat.zero_add] at hin ⊢
    exact M'.pins j v (by show (if inL V.pl j then vs[j]? else none) = some v; rw [if_pos hin]; exact hj))
  have key : a'.defers = [] ∧ ∃ v, (results fn a'.tmps).run P w' = .ok v w' ∧ ∃ k bo br, Ret h w vs bs os (resS l) k bo br v w' := by
    refine ⟨M'.defers, _, ?_, k, bo, br, M'.le, fun b hb hn i => M'.newc b hb hn i, M'.newg, M'.holds, M'.fr, o1, r2.tells, ?_, ?_⟩
    · rw [results_eq]
      have r1' : (fn.results.toList.mapM (resOne a'.tmps)).run P w' = .ok rvs w' := r1
      simp [r1']
    · refine List.nodup_append.2 ⟨o2, r3, fun x hx y hy he => ?_⟩
      subst he
      obtain ⟨j, _, hj, hxj⟩ := o3 x hx
      obtain ⟨s, hs, hxs⟩ := r4 x hy
      exact M'.disj j s (fun e => hs (by rw [← e]; exact hj)) x hxj hxs
    · intro b hb
      rcases List.mem_append.1 hb with hb | hb
      · obtain ⟨j, _, hj, hxj⟩ := o3 b hb
        exact ⟨M'.mine j b hxj, M'.lt j b hxj⟩
      · obtain ⟨s, hs, hxs⟩ := r4 b hb
        exact ⟨M'.mine s b hxs, M'.lt s b hxs⟩
  rcases he with rfl | rfl
  · exact key
  · exact key
end Go.X
namespace Go.X
open Go

def tyK : Option TypeDesc → TyK
  | some .bool => .bool
  | some (.int k) => .int k
  | some .string => .str
  | some (.slice e) => .sl e
  | some (.array n e) => .arr n e
  | some (.struct fs) => .strct (fs.toList.map fun f => (f.type, f.offset))
  | some (.pointer _) => .ptr
  | some (.interface _) => .iface
  | _ => .other
def isOther : TyK → Bool
  | .other => true
  | _ => false
def zeroCs : Value → List C
  | .agg vs => vs.toList.map cst
  | v => [cst v]
def isAggV : Value → Bool
  | .agg _ => true
  | _ => false
/-- structs of whole numbers -/
def eqsB (P : Program) (t : TypeId) (n : Nat) : Bool :=
  match P.underlying t with
  | some (.struct fs) => !P.eqGuardType P.depth t && !P.stoodInHeld t && Nat.beq fs.size n && (fs.toList.zipIdx.all fun p => Nat.beq p.1.offset p.2 && !(p.1.name == "_") && (match P.underlying p.1.type with
    | some (.int _) => true
    | _ => false))
  | _ => false
theorem run_part_int {P : Program} {w : World} {t : TypeId} {k : IntKind} (hu : P.underlying t = some (.int k)) {cs : Array Value} {i : Nat} {v : Value} (hv : cs[i]? = some v) : (part t cs i).run P w = .ok v w := by
  have : (isAgg t).run P w = .ok false w := by simp [isAgg, run_underlying hu]
  simp [part, this, hv]
theorem eqFields_ok {P : Program} (d : Nat) {xs ys : List (IntKind × Int)} (hk : ys.map Prod.fst = xs.map Prod.fst) (w : World) : ∀ (fs : List Field) (i : Nat),
    (∀ p ∈ fs.zipIdx i, p.1.offset = p.2 ∧ p.1.name ≠ "_" ∧ ∃ k, P.underlying p.1.type = some (.int k)) → i + fs.length = xs.length →
    (Op.eqFields (d + 1) (xs.map mkI).toArray (ys.map mkI).toArray fs).run P w = .ok (decide (xs.drop i = ys.drop i)) w
  | [], i, _, hl => by
    have hl2 : ys.length = xs.length := by simpa using congrArg List.length hk
    simp only [List.length_nil, Nat.add_zero] at hl
    rw [List.drop_of_length_le (by omega), List.drop_of_length_le (by omega)]
    simp [Op.eqFields]
  | f :: fs, i, hf, hl => by
    have hl2 : ys.length = xs.length := by simpa using congrArg List.length hk
    simp only [List.length_cons] at hl
    obtain ⟨h1, h2, k, h3⟩ := hf (f, i) (by simp [List.zipIdx_cons])
    simp only at h1 h2 h3
    have hx : i < xs.length := by omega
    have hy : i < ys.length := by omega
    have ex : (xs.map mkI).toArray[i]? = some (mkI xs[i]) := by simp [hx]
    have ey : (ys.map mkI).toArray[i]? = some (mkI ys[i]) := by simp [hy]
    have hkk : ys[i].1 = xs[i].1 := by
      have := congrArg (fun l => l[i]?) hk
      simpa [hx, hy] using this
    have hi := eqFields_ok d hk w fs (i + 1) (fun p hp => hf p (by rw [List.zipIdx_cons]; exact List.mem_cons_of_mem _ hp)) (by omega)
    have he : (Op.equalIn (d + 1) f.type (mkI xs[i]) (mkI ys[i])).run P w = .ok (xs[i].2 == ys[i].2) w := by
      show (Op.equalIn (d + 1) f.type (.int xs[i].1 xs[i].2) (.int ys[i].1 ys[i].2)).run P w = _
      rw [hkk]
      exact run_equalIn_int w d f.type xs[i].1 k xs[i].2 ys[i].2 h3
    have hd : decide (xs.drop i = ys.drop i) = ((xs[i].2 == ys[i].2) && decide (xs.drop (i + 1) = ys.drop (i + 1))) := by
      have key : ∀ (a b : IntKind × Int) (l m : List (IntKind × Int)), b.1 = a.1 → decide (a :: l = b :: m) = ((a.2 == b.2) && decide (l = m)) := by
        rintro ⟨k1, a⟩ ⟨k2, b⟩ l m h
        simp only at h
        subst h
        by_cases e : a = b
        · subst e; simp
        · simp [e]
      rw [List.drop_eq_getElem_cons hx, List.drop_eq_getElem_cons hy]
      exact key _ _ _ _ hkk
    rw [hd]
    have hp1 := run_part_int (P := P) (w := w) h3 ex
    have hp2 := run_part_int (P := P) (w := w) h3 ey
    simp only [Op.eqFields, h2, ne_eq, not_false_eq_true, if_true, Sem.run_bind, h1, hp1, hp2, Result.andThen_ok, he]
    cases hb : (xs[i].2 == ys[i].2) with
    | false => simp
    | true => simp [hi]
theorem eqsB_ok {P : Program} {t : TypeId} {n : Nat} (h : eqsB P t n = true) : EqOk P t n := by
  unfold eqsB at h
  split at h
  · rename_i fs hu
    simp only [Bool.and_eq_true, Bool.not_eq_true', List.all_eq_true] at h
    obtain ⟨⟨⟨h1, h2⟩, h3⟩, h4⟩ := h
    have h3 := Nat.eq_of_beq_eq_true h3
    have hfo : P.fieldsOf t = fs := by simp [Program.fieldsOf, hu]
    intro xs ys w hl hk
    refine ⟨fun op x y => run_eqGuard_agg w op t x y _ _ h1, ?_⟩
    show (Op.equalIn (9999 + 1) t _ _).run P w = _
    rw [run_equalIn_struct w 9999 t _ _ (by rw [hfo]; exact hu) h2, hfo]
    have := eqFields_ok (P := P) 9998 hk w fs.toList 0 (fun p hp => by
      obtain ⟨⟨a1, a2⟩, a3⟩ := h4 p hp
      refine ⟨Nat.eq_of_beq_eq_true a1, fun e => by rw [e] at a2; simp at a2, ?_⟩
      split at a3
      · rename_i k hk; exact ⟨k, hk⟩
      · cases a3) (by simp; omega)
    simpa using this
  · cases h
def tyOf (eqs : Bool) (k : TyK) (size bytes : Nat) (cs : List C) (ag : Bool) : TyI :=
  bif !isOther k && Nat.beq cs.length size && !Nat.beq size 0 && cs.all zeroOk && (ag == aggK k) && (ag || Nat.beq size 1) then { k, size, bytes, zero := cs, eqs } else dflt
def tabOf (P : Program) : Tab := fun t =>
  match P.info? t with
  | some ti => match ti.zero with
    | some z => tyOf (eqsB P t ti.size) (tyK (P.underlying t)) ti.size ti.bytes (zeroCs z) (isAggV z)
    | none => dflt
  | none => dflt

theorem cval_cst (v : Value) : cval (cst v) = v := by
  unfold cst
  split <;> rfl
theorem tabOf_ok (P : Program) : TabOk P (tabOf P) := by
  intro t
  cases hi : P.info? t with
  | none => left; unfold tabOf; rw [hi]
  | some ti =>
    cases hz : ti.zero with
    | none => left; unfold tabOf; rw [hi]; simp only [hz]
    | some z =>
      have he : tabOf P t = tyOf (eqsB P t ti.size) (tyK (P.underlying t)) ti.size ti.bytes (zeroCs z) (isAggV z) := by
        unfold tabOf; rw [hi]; simp only [hz]
      cases hq : (!isOther (tyK (P.underlying t)) && Nat.beq (zeroCs z).length ti.size && !Nat.beq ti.size 0 && (zeroCs z).all zeroOk && (isAggV z == aggK (tyK (P.underlying t))) && (isAggV z || Nat.beq ti.size 1)) with
      | false => left; rw [he]; unfold tyOf; rw [hq]; rfl
      | true =>
        right
        have hT : tabOf P t = { k := tyK (P.underlying t), size := ti.size, bytes := ti.bytes, zero := zeroCs z, eqs := eqsB P t ti.size } := by
          rw [he]; unfold tyOf; rw [hq]; rfl
        simp only [Bool.and_eq_true, Bool.not_eq_true', Bool.or_eq_true] at hq
        obtain ⟨⟨⟨⟨⟨q1, q2⟩, q3⟩, q4⟩, q5⟩, q6⟩ := hq
        have q2 := Nat.eq_of_beq_eq_true q2
        have q5 := eq_of_beq q5
        have hmk : mkV (isAggV z) ((zeroCs z).map cval) = z := by
          cases z with
          | agg vs =>
            have : (vs.toList.map cst).map cval = vs.toList := by rw [List.map_map]; exact (List.map_congr_left (fun v _ => cval_cst v)).trans (List.map_id _)
            simp only [zeroCs, isAggV, mkV, cond_true, this, Array.toArray_toList]
          | _ => simp [zeroCs, isAggV, mkV, cval_cst]
        constructor
        · rw [hT]; exact fun h => eqsB_ok h
        · refine ⟨ti, hi, by rw [hT], by rw [hT], ?_⟩
          rw [hT]; simp only; rw [hz, ← q5, hmk]
        · rw [hT]; exact q2
        · rw [hT]; exact q4
        · rw [hT]; simp only
          intro hag
          rw [← q5] at hag
          rcases q6 with h | h
          · rw [hag] at h; cases h
          · exact Nat.eq_of_beq_eq_true h
        · rw [hT]
          simp only
          cases hu : P.underlying t with
          | none => rw [hu] at q1; cases q1
          | some d =>
            rw [hu] at q1
            cases d with
            | struct fs => exact ⟨fs, hu, rfl⟩
            | pointer e => exact ⟨e, hu⟩
            | interface ms => exact ⟨ms, hu⟩
            | bool => exact hu
            | int k => exact hu
            | string => exact hu
            | slice e => exact hu
            | array n e => exact hu
            | _ => simp [tyK, isOther] at q1
        · rw [hT]; intro h; simp only at h; rw [h] at q3; cases q3
end Go.X
namespace Go.X
open Go

def codeOf (f : Func) : Code := f.body.getD .skip
def subC (b : Bool) : Code → Code
  | .seq x y => bif b then y else x
  | .cond _ x y => bif b then y else x
  | .loop x => x
  | .block _ x => x
  | .scope x => x
  | c => c
def sub : List Bool → Code → Code
  | [], c => c
  | b :: r, c => sub r (subC b c)

/-- words of 32 bits, as a slice's cells -/
def wf (l : List Nat) : Nat → Nat → D := fun j _ => .v (.int .u32 (l.getD j 0))
/-- a plain slice of words; one that is mutable -/
def W (l : List Nat) : S := .one false [.d (.sf 1 l.length (wf l))]
def WO (l : List Nat) : S := .one false [.own 1 l.length (wf l)]

/-- the methods of a type, where the receiver is the value itself -/
def notPtr : TyK → Bool
  | .ptr => false
  | .other => false
  | _ => true
def methOf (P : Program) (t : TypeId) (m : String) : Option FuncId :=
  match P.info? t with
  | some ti => match ti.methods.find? (·.name == m) with
    | some r => match r.path.toList, r.func with
      | [], some (f, false) => bif notPtr (tyK (P.underlying t)) then some f else none
      | _, _ => none
    | none => none
  | none => none
theorem methOf_ok {P : Program} {t : TypeId} {m : String} {f : FuncId} (h : methOf P t m = some f) (v : Value) (w : World) : (method (P.types.size + Made.depth) t v m).run P w = .ok (f, v) w := by
  unfold methOf at h
  split at h
  · rename_i ti hti
    split at h
    · rename_i r hr
      split at h
      · rename_i f' hp hf
        cases hn : notPtr (tyK (P.underlying t)) with
        | false => rw [hn] at h; cases h
        | true =>
          rw [hn] at h
          simp only [cond_true, Option.some.injEq] at h
          subst h
          have hu : ∃ d, P.underlying t = some d ∧ ∀ e, d ≠ .pointer e := by
            cases hu : P.underlying t with
            | none => rw [hu] at hn; cases hn
            | some d => exact ⟨d, rfl, fun e he => by rw [hu, he] at hn; cases hn⟩
          obtain ⟨d, hd, hne⟩ := hu
          show (method (P.types.size + 99 + 1) t v m).run P w = _
          have hpath : r.path = #[] := by apply Array.ext'; exact hp
          have hrec : (receiverAt t (.val v) false (if (#[] : Array FieldStep).isEmpty then some ((m.splitOn ".").getLastD m) else none)).run P w = .ok v w := by
            unfold receiverAt
            simp only [Sem.run_bind, run_underlying hd, Result.andThen_ok]
            cases d with
            | pointer e => exact absurd rfl (hne e)
            | _ => rfl
          unfold method
          simp only [Sem.run_bind, run_typeInfo w hti, Result.andThen_ok, hr, hpath, hf]
          simp only [follow, Sem.run_pure, Result.andThen_ok]
          simp only [hrec, Result.andThen_ok]
      · cases h
    · cases h
  · cases h
/-- a function's surroundings, by the program's own types and contracts -/
def EV (P : Program) (n : Nat) (pl : List Nat) : Env := { T := tabOf P, K := Den P, n, pl, M := methOf P }
theorem den_tab {P : Program} {n : Nat} {pl : List Nat} {f : FuncId} {fn : Func} {c : Code} {args outs : List S} {res : S} {gout : List (Nat × S)} {e : Fin}
    (hf : P.funcs[f]? = some fn) (hb : fn.body = some c) (hn : (fn.name == "runtime.NumGoroutine") = false) (hnt : n = fn.ntmps) (hle : Nat.ble args.length n = true)
    (hfin : finE (tabOf P) gout fn.results.toList args pl = some (outs, res)) (hg : Goes (EV P n pl) c (entry 0 args) e gout) (he : e = .normal ∨ e = .ret) : Den P f args outs res :=
  den_of_goes (V := EV P n pl) (tabOf_ok P) (fun _ _ _ v w h => methOf_ok h v w) (fun _ _ _ _ h => h) hf hb hn hnt (hnt ▸ Nat.le_of_ble_eq_true hle) hfin hg he
end Go.X
namespace Go.X
open Go

theorem Alls.keep {h k : Hp} {w w' : World} (hk : h.le k) : ∀ {xs : List S} {vs : List Value} {bs : List Nat}, Alls h w xs vs bs → Still h k w w' bs → Alls k w' xs vs bs
  | [], _, _, ha, _ => ha
  | _ :: _, _, _, ⟨v, vs', b1, b2, hv, hb, h1, h2⟩, hs => ⟨v, vs', b1, b2, hv, hb, h1.keep hk (hs.sub (by subst hb; intro b hb; simp [hb])), Alls.keep hk h2 (hs.sub (by subst hb; intro b hb; simp [hb]))⟩

theorem Ret.frozen {h k : Hp} {w w' : World} {vs : List Value} {bs bo br : List Nat} {outs : List S} {v : Value} {ag : Bool} {cs : List C} (R : Ret h w vs bs outs (.one ag cs) k bo br v w') :
    ∃ k', Ret h w vs bs outs (.one ag (cs.map fzC)) k' bo [] v w' := by
  obtain ⟨us, ho, hv, hl⟩ := R.res
  have nd := List.nodup_append.1 R.nodup
  obtain ⟨k', e1, e2, e3, e4, e5⟩ := freezeCs R.holds ho nd.2.1
  refine ⟨k', R.le.trans e1, fun b hb hn i => ?_, fun b hb => by rw [e3]; exact R.newg b hb, e2, R.fr, R.outs.keep e1 ⟨fun _ _ => rfl, fun b hb i => e4 b (fun hc => nd.2.2 b hb b hc rfl) i, fun b _ => by rw [e3]⟩, ⟨us, e5, hv, fun e => by rw [List.length_map]; exact hl e⟩, by rw [List.append_nil]; exact nd.1, fun b hb => R.mine b (by rw [List.append_nil] at hb; simp [hb])⟩
  rw [e4 b (fun hc => ?_) i]
  · exact R.newc b hb hn i
  · rcases (R.mine b (by simp [hc])).1 with h | h
    · omega
    · exact hn h
theorem Den.frozen {P : Program} {f : FuncId} {args outs : List S} {ag : Bool} {cs : List C} (hd : Den P f args outs (.one ag cs)) : Den P f args outs (.one ag (cs.map fzC)) := by
  intro h w vs bs h1 h2 h3 h4
  refine (hd h w vs bs h1 h2 h3 h4).mono fun v w' ⟨k, bo, br, R⟩ => ?_
  obtain ⟨k', R'⟩ := R.frozen
  exact ⟨k', bo, [], R'⟩
theorem Den.plain {P : Program} {f : FuncId} {args outs : List S} {l : List Nat} (hd : Den P f args outs (WO l)) : Den P f args outs (W l) := hd.frozen
end Go.X
namespace Go.X
open Go

theorem tt : True := trivial
theorem er {α : Sort _} (x : α) : x = x := rfl
theorem fq (n sz : Nat) (f : Nat → Nat → D) : n = n ∧ FEq n sz f f := ⟨rfl, FEq.refl _ _ _⟩
theorem nn : holdAll [] := trivial
theorem cc {p : Prop} {ps : List Prop} (h : p) (t : holdAll ps) : holdAll (p :: ps) := ⟨h, t⟩
theorem pathG {V : Env} {c : Code} {gin gout : List (Nat × S)} {e : Fin} {ps : List Prop} (its : List It) (hp : holdAll ps) (h : pathE V c gin its gout = some (e, ps)) : Goes V c gin e gout := pathE_goes h hp
theorem bt (b : Bool) {c a x : Bool} (hc : c = true) (h : a = x) : (bif c then a else b) = x := by rw [hc]; exact h
theorem bf (a : Bool) {c b x : Bool} (hc : c = false) (h : b = x) : (bif c then a else b) = x := by rw [hc]; exact h
theorem bn {c x : Bool} (h : c = x) : (!c) = !x := by rw [h]
end Go.X
namespace Go.X
open Go

/-- arguments, some of them mutable slices in the place of plain ones -/
inductive Lent : List S → List S → Prop
  | nil : Lent [] []
  | same {x : S} {xs ys : List S} : Lent xs ys → Lent (x :: xs) (x :: ys)
  | own {sz n : Nat} {f : Nat → Nat → D} {xs ys : List S} : Lent xs ys → Lent (.one false [.d (.sf sz n f)] :: xs) (.one false [.own sz n f] :: ys)

theorem Alls.nog {h : Hp} {w : World} : ∀ {xs : List S} {vs : List Value} {bs : List Nat}, Alls h w xs vs bs → ∀ b ∈ bs, h.g b = none
  | [], _, _, ha, b, hb => by rw [ha.2] at hb; cases hb
  | _ :: _, _, _, ⟨v, vs', b1, b2, hv, hb, h1, h2⟩, b, hm => by
    subst hb
    rcases List.mem_append.1 hm with h | h
    · exact h1.nog b h
    · exact h2.nog b h
theorem freezeAlls : ∀ {xs ys : List S} {h : Hp} {w : World} {vs : List Value} {bs : List Nat}, Lent xs ys → xs.all plainS = true → h.holds w → Alls h w ys vs bs → bs.Nodup →
    ∃ k : Hp, h.le k ∧ k.holds w ∧ k.g = h.g ∧ (∀ b, b ∉ bs → ∀ i, k.c b i = h.c b i) ∧ Alls k w xs vs []
  | _, _, h, w, vs, bs, .nil, _, hw, ha, _ => ⟨h, Hp.le.refl h, hw, rfl, fun _ _ _ => rfl, ha.1, rfl⟩
  | x :: xs, _ :: ys, h, w, _, _, .same hl, hp, hw, ⟨v, vs', b1, b2, hv, hb, h1, h2⟩, nd => by
    subst hb; subst hv
    simp only [List.all_cons, Bool.and_eq_true] at hp
    cases x with
    | one ag cs =>
      obtain ⟨us, o1, o2, o3⟩ := h1
      have hb1 := o1.plainBs hp.1
      subst hb1
      obtain ⟨k, k1, k2, k3, k4, k5⟩ := freezeAlls hl hp.2 hw h2 nd
      exact ⟨k, k1, k2, k3, k4, v, vs', [], [], rfl, rfl, ⟨us, o1.keep k1 ⟨fun b hb => (by cases hb), fun b hb => (by cases hb), fun b hb => (by cases hb)⟩, o2, o3⟩, k5⟩
    | _ => simp [plainS] at hp
  | _ :: xs, _ :: ys, h, w, _, _, .own (sz := sz) (n := n) (f := f) hl, hp, hw, ⟨v, vs', b1, b2, hv, hb, h1, h2⟩, nd => by
    subst hb; subst hv
    simp only [List.all_cons, Bool.and_eq_true] at hp
    have nd' := List.nodup_append.1 nd
    obtain ⟨us, o1, o2, o3⟩ := h1
    obtain ⟨k, k1, k2, k3, k4, k5⟩ := freezeCs hw o1 nd'.1
    have h2' : Alls k w ys vs' b2 := Alls.keep k1 h2 ⟨fun _ _ => rfl, fun b hb i => k4 b (fun hc => nd'.2.2 b hc b hb rfl) i, fun b _ => by rw [k3]⟩
    obtain ⟨k', e1, e2, e3, e4, e5⟩ := freezeAlls hl hp.2 k2 h2' nd'.2.1
    refine ⟨k', k1.trans e1, e2, by rw [e3, k3], fun b hb i => ?_, v, vs', [], [], rfl, rfl, ⟨us, k5.keep e1 ⟨fun b hb => (by cases hb), fun b hb => (by cases hb), fun b hb => (by cases hb)⟩, o2, fun e => by simp⟩, e5⟩
    rw [e4 b (fun hc => hb (by simp [hc])) i]
    exact k4 b (fun hc => hb (by simp [hc])) i
theorem Den.lent {P : Program} {f : FuncId} {args args' : List S} {x : Value} (hl : Lent args args') (hp : args.all plainS = true) (hd : Den P f args args (oneD (.v x))) : Den P f args' args' (oneD (.v x)) := by
  intro h w vs bs h1 h2 h3 h4
  obtain ⟨k1, e1, e2, e3, e4, e5⟩ := freezeAlls hl hp h1 h2 h3
  refine (hd k1 w vs [] e2 e5 List.nodup_nil (fun b hb => by cases hb)).mono fun v w' ⟨k, bo, br, R⟩ => ?_
  let k2 : Hp := { c := fun b i => if b < w.heap.size then h.c b i else k.c b i, g := fun b => if b < w.heap.size then h.g b else k.g b }
  have ho : ∀ b, b < w.heap.size → ∀ i, k2.c b i = h.c b i := fun b hb i => if_pos hb
  have hog : ∀ b, b < w.heap.size → k2.g b = h.g b := fun b hb => if_pos hb
  have hle : h.le k2 := ⟨fun b i u hu => by rw [ho b (h1.lt hu)]; exact hu, fun b l hg => by rw [hog b (h1.ltg hg)]; exact hg⟩
  have hh : k2.holds w' := by
    refine ⟨fun b i u hu => ?_, fun b l hg => ?_, fun b l i hg => ?_⟩
    · by_cases hb : b < w.heap.size
      · rw [ho b hb] at hu
        exact R.holds.c b i u (R.le.c _ _ _ (e1.c _ _ _ hu))
      · have : k2.c b i = k.c b i := if_neg hb
        rw [this] at hu
        exact R.holds.c b i u hu
    · by_cases hb : b < w.heap.size
      · rw [hog b hb] at hg
        exact R.holds.g b l (R.le.g _ _ (e1.g _ _ hg))
      · have : k2.g b = k.g b := if_neg hb
        rw [this] at hg
        exact R.holds.g b l hg
    · by_cases hb : b < w.heap.size
      · rw [hog b hb] at hg
        rw [ho b hb]; exact h1.ap b l i hg
      · have e9 : k2.g b = k.g b := if_neg hb
        have e8 : k2.c b i = k.c b i := if_neg hb
        rw [e9] at hg
        rw [e8]; exact R.holds.ap b l i hg
  have hheap : ∀ b ∈ bs, w'.heap[b]? = w.heap[b]? := fun b hb => R.fr.block b (h4 b hb) (fun hc => by
    rcases hc with hc | ⟨l, hl⟩
    · cases hc
    · rw [e3, h2.nog b hb] at hl; cases hl)
  refine ⟨k2, bs, [], hle, fun b hb _ i => ho b hb i, hog, hh, ?_, Alls.keep hle h2 ⟨hheap, fun b hb i => ho b (h4 b hb) i, fun b hb => hog b (h4 b hb)⟩, ?_, by rw [List.append_nil]; exact h3, fun b hb => ?_⟩
  · have := R.fr
    exact ⟨this.os, this.tape, this.output, this.size, fun b hb hn => this.block b hb (fun hc => hn (by
      rcases hc with hc | ⟨l, hl⟩
      · cases hc
      · exact .inr ⟨l, by rw [e3] at hl; exact hl⟩))⟩
  · obtain ⟨us, o1, o2, o3⟩ := R.res
    obtain ⟨u, vs', b1, b2, hu, hbb, hov, hvs⟩ := o1
    exact ⟨us, ⟨u, vs', [], [], hu, rfl, ⟨hov.1, rfl⟩, hvs.1, rfl⟩, o2, o3⟩
  · rw [List.append_nil] at hb
    exact ⟨.inr hb, Nat.lt_of_lt_of_le (h4 b hb) R.fr.size⟩
end Go.X
namespace Go.X
open Go

/-- a list of words, mutable -/
theorem WO_keep {h k : Hp} {w w' : World} {l : List Nat} {v : Value} {bs : List Nat} (ht : Tells h w (WO l) v bs) (hheap : ∀ b ∈ bs, w'.heap[b]? = w.heap[b]?) (hc : ∀ b ∈ bs, ∀ i, k.c b i = none) (hg : ∀ b ∈ bs, k.g b = none) : Tells k w' (WO l) v bs := by
  obtain ⟨b, p, cap, cells, e, h1, h2, h3, h4, h5, rfl, h7⟩ := own_one ht
  refine one_own ⟨b, p, cap, cells, e, h1, h2, by rw [hheap b (by simp)]; exact h3, h4, fun j i hj hi => ?_, rfl, ⟨fun i => hc b (by simp) i, hg b (by simp)⟩⟩
  obtain ⟨u, hu, hr⟩ := h5 j i hj hi
  exact ⟨u, hu, hr⟩
theorem Den.lent2 {P : Program} {f : FuncId} {a a' b : List Nat} (hd : Den P f [WO a, W b] [WO a', W b] (.tup [])) : Den P f [WO a, WO b] [WO a', WO b] (.tup []) := by
  intro h w vs bs h1 h2 h3 h4
  obtain ⟨v1, vs1, c1, c2, hv, hb, t1, h2⟩ := h2
  obtain ⟨v2, vs2, c3, c4, hv2, hb2, t2, h2⟩ := h2
  obtain ⟨rfl, rfl⟩ := h2
  subst hv2; subst hb2; subst hv; subst hb
  rw [List.append_nil] at h3 h4
  have nd := List.nodup_append.1 h3
  obtain ⟨us, o1, o2, o3⟩ := id t2
  obtain ⟨k1, e1, e2, e3, e4, e5⟩ := freezeCs h1 o1 nd.2.1
  have f1 : ∀ b ∈ c1, ∀ i, h.c b i = none := fun b hb i => by
    obtain ⟨_, _, _, _, _, _, _, _, _, _, rfl, h7⟩ := own_one t1
    simp only [List.mem_singleton] at hb; subst hb; exact h7.c i
  have f2 : ∀ b ∈ c3, ∀ i, h.c b i = none := fun b hb i => by
    obtain ⟨_, _, _, _, _, _, _, _, _, _, rfl, h7⟩ := own_one t2
    simp only [List.mem_singleton] at hb; subst hb; exact h7.c i
  have hcc : ∀ b ∈ c1, b ∉ c3 := fun b hb hc => nd.2.2 b hb b hc rfl
  have A : Alls k1 w [WO a, W b] [v1, v2] c1 := ⟨v1, [v2], c1, [], rfl, by simp, WO_keep t1 (fun _ _ => rfl) (fun x hx i => by rw [e4 x (hcc x hx) i]; exact f1 x hx i) (fun x hx => by rw [e3]; exact t1.nog x hx),
    v2, [], [], [], rfl, rfl, ⟨us, e5, o2, fun e => by simp⟩, rfl, rfl⟩
  refine (hd k1 w [v1, v2] c1 e2 A nd.1 (fun b hb => h4 b (by simp [hb]))).mono fun v w' ⟨k, bo, br, R⟩ => ?_
  let k2 : Hp := { c := fun b i => if b ∈ c3 then none else k.c b i, g := k.g }
  have hin : ∀ b ∈ c3, ∀ i, k2.c b i = none := fun b hb i => if_pos hb
  have hout : ∀ b, b ∉ c3 → ∀ i, k2.c b i = k.c b i := fun b hb i => if_neg hb
  have hle : h.le k2 := ⟨fun b i u hu => by
    have hb : b ∉ c3 := fun hc => by rw [f2 b hc i] at hu; cases hu
    rw [hout b hb]; exact R.le.c _ _ _ (e1.c _ _ _ hu), fun b l hg => R.le.g _ _ (e1.g _ _ hg)⟩
  have hg3 : ∀ b ∈ c3, k.g b = none := fun b hb => by
    rw [R.newg b (h4 b (by simp [hb])), e3]; exact t2.nog b hb
  have hheap : ∀ b ∈ c3, w'.heap[b]? = w.heap[b]? := fun b hb => R.fr.block b (h4 b (by simp [hb])) (fun hc => by
    rcases hc with hc | ⟨l, hl⟩
    · exact hcc b hc hb
    · rw [e3, t2.nog b hb] at hl; cases hl)
  obtain ⟨u1, us1, d1, d2, hu, hd1, r1, r2⟩ := R.outs
  obtain ⟨u2, us2, d3, d4, hu2, hd2, r3, r4⟩ := r2
  obtain ⟨rfl, rfl⟩ := r4
  subst hu2
  simp only [List.cons.injEq, and_true] at hu
  obtain ⟨rfl, rfl⟩ := hu
  have hd3 : d3 = [] := by
    obtain ⟨us9, q1, _⟩ := r3
    obtain ⟨_, _, _, _, _, hbb, hov, hvs⟩ := q1
    rw [hbb, hov.2, hvs.2]; rfl
  subst hd3
  rw [List.append_nil] at hd2
  subst hd2
  rw [List.append_nil] at hd1
  subst hd1
  have hbr : br = [] := by
    obtain ⟨_, _, q⟩ := R.res
    exact q.2
  subst hbr
  have hdis : ∀ x ∈ bo, x ∉ c3 := fun x hx hc => by
    rcases (R.mine x (by simp [hx])).1 with hm | hm
    · have := h4 x (by simp [hc]); omega
    · exact hcc x hm hc
  have hfree : ∀ x ∈ bo, ∀ i, k.c x i = none := fun b hb i => by
    obtain ⟨_, _, _, _, _, _, _, _, _, _, rfl, h7⟩ := own_one r1
    simp only [List.mem_singleton] at hb; subst hb; exact h7.c i
  have nb := R.nodup
  rw [List.append_nil] at nb
  refine ⟨k2, bo ++ c3, [], hle, fun x hx hn i => ?_, fun x hx => ?_, ⟨fun x i u hu => ?_, R.holds.g, fun x l i hl => ?_⟩, ?_, ?_, R.res, ?_, fun x hx => ?_⟩
  · have hx3 : x ∉ c3 := fun hc => hn (by simp [hc])
    have hx1 : x ∉ c1 := fun hc => hn (by simp [hc])
    rw [hout x hx3, R.newc x hx hx1 i, e4 x hx3 i]
  · show k.g x = h.g x
    rw [R.newg x hx, e3]
  · have hx3 : x ∉ c3 := fun hc => by rw [hin x hc] at hu; cases hu
    rw [hout x hx3] at hu
    exact R.holds.c x i u hu
  · by_cases hx3 : x ∈ c3
    · exact hin x hx3 i
    · rw [hout x hx3]; exact R.holds.ap x l i hl
  · have := R.fr
    exact ⟨this.os, this.tape, this.output, this.size, fun x hx hn => this.block x hx (fun hc => hn (by
      rcases hc with hc | ⟨l, hl⟩
      · exact .inl (by simp [hc])
      · exact .inr ⟨l, by rw [e3] at hl; exact hl⟩))⟩
  · refine ⟨v1, [v2], bo, c3, rfl, rfl, WO_keep r1 (fun _ _ => rfl) (fun x hx i => by rw [hout x (hdis x hx)]; exact hfree x hx i) (fun x hx => r1.nog x hx), v2, [], c3, [], rfl, by simp, ?_, rfl, rfl⟩
    exact WO_keep t2 hheap hin hg3
  · rw [List.append_nil]
    exact List.nodup_append.2 ⟨nb, nd.2.1, fun x hx y hy he => hdis x hx (he ▸ hy)⟩
  · rw [List.append_nil] at hx
    rcases List.mem_append.1 hx with hx | hx
    · have := R.mine x (by simp [hx])
      exact ⟨this.1.imp id fun hm => by simp [hm], this.2⟩
    · exact ⟨.inr (by simp [hx]), Nat.lt_of_lt_of_le (h4 x (by simp [hx])) R.fr.size⟩
end Go.X
namespace Go.X
open Go Go.Proofs
noncomputable def PP : Program := Tryz.prog
end Go.X
