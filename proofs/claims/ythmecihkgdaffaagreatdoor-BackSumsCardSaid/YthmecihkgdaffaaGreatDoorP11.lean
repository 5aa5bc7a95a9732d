/- Part 11 of the proof of BackSums: A region whose order is drawn does what the text's order does, where operations that may change places don't meet. Regions: a pass in the text's order tells what the region does, in whatever order it is run. Paths through a function's code. No conditions but those that each theorem names. -/
import Derived.Test.YthmecihkgdaffaaGreatDoorP10
import Derived.Scope
namespace Go.X
open Go

def writesOf (e : EffX) (d : Option Tmp) : List Nat := e.md.map (·.1) ++ (e.pt.map (·.1) ++ slots d)
abbrev Ex := List (EffX × Option Tmp)
def conf (x y : EffX × Option Tmp) : Bool := (writesOf x.1 x.2).any (fun s => inL y.1.rd s || inL (writesOf y.1 y.2) s) || x.1.rd.any (inL (writesOf y.1 y.2))
def act (x : Ex) (g : Lk) (i : Nat) : Lk :=
  match x[i]? with
  | some p => uponX g p.1 p.2
  | none => g
def acts (x : Ex) (g : Lk) (l : List Nat) : Lk := l.foldl (act x) g
def wrs (x : Ex) (s i : Nat) : Bool :=
  match x[i]? with
  | some p => inL (writesOf p.1 p.2) s
  | none => false

theorem lkMods_at : ∀ (l : List (Nat × S)) {g g' : Lk} {s : Nat}, g' s = g s → lkMods g' l s = lkMods g l s
  | [], _, _, _, h => h
  | (t, x) :: r, g, g', s, h => lkMods_at r (by
      by_cases hs : s = t
      · subst hs; simp [lkMod, h]
      · simp [lkMod, hs, h])
theorem lkPuts_at : ∀ (l : List (Nat × S)) {g g' : Lk} {s : Nat}, g' s = g s → lkPuts g' l s = lkPuts g l s
  | [], _, _, _, h => h
  | (t, x) :: r, g, g', s, h => lkPuts_at r (by
      by_cases hs : s = t
      · subst hs; simp [lkPut, h]
      · simp [lkPut, hs, h])
theorem uponX_at {g g' : Lk} {e : EffX} {d : Option Tmp} {s : Nat} (h : g' s = g s) : uponX g' e d s = uponX g e d s := by
  have h2 := lkPuts_at e.pt (lkMods_at e.md h)
  unfold uponX
  cases d with
  | none => exact h2
  | some d =>
    simp only [lkDst, lkPut]
    by_cases hs : s = d
    · subst hs; simp [h2]
    · simp [hs, h2]
theorem lkMods_out : ∀ (l : List (Nat × S)) {g : Lk} {s : Nat}, s ∉ l.map (·.1) → lkMods g l s = g s
  | [], _, _, _ => rfl
  | (t, x) :: r, g, s, h => by
    simp only [List.map_cons, List.mem_cons, not_or] at h
    rw [lkMods, lkMods_out r h.2]; simp [lkMod, h.1]
theorem lkPuts_out : ∀ (l : List (Nat × S)) {g : Lk} {s : Nat}, s ∉ l.map (·.1) → lkPuts g l s = g s
  | [], _, _, _ => rfl
  | (t, x) :: r, g, s, h => by
    simp only [List.map_cons, List.mem_cons, not_or] at h
    rw [lkPuts, lkPuts_out r h.2]; simp [lkPut, h.1]
theorem uponX_out {g : Lk} {e : EffX} {d : Option Tmp} {s : Nat} (h : inL (writesOf e d) s = false) : uponX g e d s = g s := by
  have h : s ∉ writesOf e d := fun hc => by rw [inL_iff.2 hc] at h; cases h
  unfold writesOf at h
  simp only [List.mem_append, not_or] at h
  have h2 : lkPuts (lkMods g e.md) e.pt s = g s := by rw [lkPuts_out _ h.2.1, lkMods_out _ h.1]
  unfold uponX
  cases d with
  | none => exact h2
  | some d =>
    have hs : s ≠ d := by simpa [slots] using h.2.2
    simp only [lkDst, lkPut, hs, if_false, h2]

theorem act_at {x : Ex} {g g' : Lk} {i s : Nat} (h : g' s = g s) : act x g' i s = act x g i s := by
  unfold act
  cases x[i]? with
  | none => exact h
  | some p => exact uponX_at h
theorem act_out {x : Ex} {g : Lk} {i s : Nat} (h : wrs x s i = false) : act x g i s = g s := by
  unfold act
  unfold wrs at h
  cases hx : x[i]? with
  | none => rfl
  | some p => rw [hx] at h; exact uponX_out h
theorem acts_filter (x : Ex) (s : Nat) : ∀ (l : List Nat) {g g' : Lk}, g' s = g s → acts x g' l s = acts x g (l.filter (wrs x s)) s
  | [], _, _, h => h
  | i :: l, g, g', h => by
    simp only [acts, List.foldl_cons, List.filter_cons]
    cases hw : wrs x s i with
    | true => simp only [if_true, List.foldl_cons]; exact acts_filter x s l (act_at h)
    | false => simp only [Bool.false_eq_true, if_false]; exact acts_filter x s l ((act_out hw).trans h)

/-! ### who waits for whom -/
def depM (acc : List Nat) : List Edge → Option Nat
  | [] => some 0
  | e :: es => match depM acc es with
    | some m => bif Region.binds .any e then match acc[e.on]? with
        | some k => some (Nat.lor m (Nat.lor k (Nat.pow 2 e.on)))
        | none => none
      else some m
    | none => none
def rkOf (gk : List Nat) (i : Nat) : Nat :=
  match gk[i]? with
  | some r => r
  | none => i
/-- the edges of the text's order point back; those of the other mode fall in rank -/
def rank1 (gk : List Nat) (n i : Nat) : List Edge → Bool
  | [] => true
  | e :: es => Nat.blt e.on n && (!Region.binds .text e || Nat.blt e.on i) && (!Region.binds .gc e || Nat.blt (rkOf gk e.on) (rkOf gk i)) && rank1 gk n i es
def rankE (gk : List Nat) (n : Nat) : Nat → List Oper → Bool
  | _, [] => true
  | i, o :: os => rank1 gk n i o.after.toList && rankE gk n (i + 1) os
def masks : List Oper → List Nat → Option (List Nat)
  | [], acc => some acc
  | o :: os, acc => match depM acc o.after.toList with
    | some m => masks os (acc ++ [m])
    | none => none
def chk2 : List (Nat × (EffX × Option Tmp)) → Nat → Ex → List Nat → Bool
  | _, _, [], _ => true
  | acc, i, p :: r, m :: ms => acc.all (fun q => !conf q.2 p || Nat.testBit m q.1) && chk2 ((i, p) :: acc) (i + 1) r ms
  | _, _, _ :: _, [] => false
def exOf : List EffX → List Oper → Ex
  | e :: es, o :: os => (e, o.dst) :: exOf es os
  | _, _ => []
def chkE (ops : List Oper) (es : List EffX) (gk : List Nat) : Bool :=
  match masks ops [] with
  | some ms => rankE gk ops.length 0 ops && chk2 [] 0 (exOf es ops) ms
  | none => false

theorem rank1_ok {gk : List Nat} {n i : Nat} : ∀ {es : List Edge}, rank1 gk n i es = true → ∀ e ∈ es, e.on < n ∧ (Region.binds .text e = true → e.on < i) ∧ (Region.binds .gc e = true → rkOf gk e.on < rkOf gk i)
  | [], _, e, he => by cases he
  | e :: es, h, e', he => by
    simp only [rank1, Bool.and_eq_true, Bool.or_eq_true, Bool.not_eq_true'] at h
    obtain ⟨⟨⟨h1, h2⟩, h3⟩, h4⟩ := h
    rcases List.mem_cons.1 he with rfl | he
    · refine ⟨Nat.blt_eq ▸ h1, fun hb => ?_, fun hb => ?_⟩
      · rcases h2 with h | h
        · rw [hb] at h; cases h
        · exact Nat.blt_eq ▸ h
      · rcases h3 with h | h
        · rw [hb] at h; cases h
        · exact Nat.blt_eq ▸ h
    · exact rank1_ok h4 e' he
theorem rankE_ok {gk : List Nat} {n : Nat} : ∀ {ops : List Oper} {i : Nat}, rankE gk n i ops = true → ∀ (j : Nat) (o : Oper), ops[j]? = some o → rank1 gk n (i + j) o.after.toList = true
  | [], _, _, j, o, h => by simp at h
  | o :: os, i, h, j, o', ho => by
    simp only [rankE, Bool.and_eq_true] at h
    cases j with
    | zero => simp only [List.getElem?_cons_zero, Option.some.injEq] at ho; subst ho; exact h.1
    | succ j =>
      simp only [List.getElem?_cons_succ] at ho
      have := rankE_ok h.2 j o' ho
      rw [show i + (j + 1) = i + 1 + j by omega]; exact this
theorem depM_ok {acc : List Nat} : ∀ {es : List Edge} {m : Nat}, depM acc es = some m → 
    ∀ j, m.testBit j = true → ∃ e ∈ es, Region.binds .any e = true ∧ (j = e.on ∨ ∃ k, acc[e.on]? = some k ∧ k.testBit j = true)
  | [], m, h => by
    simp only [depM, Option.some.injEq] at h; subst h
    exact fun j hj => by simp at hj
  | e :: es, m, h => by
    simp only [depM, cond_eq_ite] at h
    split at h
    · rename_i m' h1
      have i2 := depM_ok h1
      split at h
      · rename_i hb
        split at h
        · rename_i k h2
          injection h with h; subst h
          refine fun j hj => ?_
          have hj : (m' ||| (k ||| 2 ^ e.on)).testBit j = true := hj
          rw [Nat.testBit_or, Nat.testBit_or, Nat.testBit_two_pow] at hj
          simp only [Bool.or_eq_true, decide_eq_true_eq] at hj
          rcases hj with hj | hj | hj
          · obtain ⟨e', h3, h4⟩ := i2 j hj
            exact ⟨e', by simp [h3], h4⟩
          · exact ⟨e, by simp, hb, .inr ⟨k, h2, hj⟩⟩
          · exact ⟨e, by simp, hb, .inl hj.symm⟩
        · cases h
      · injection h with h; subst h
        refine fun j hj => ?_
        obtain ⟨e', h3, h4⟩ := i2 j hj
        exact ⟨e', by simp [h3], h4⟩
    · cases h
theorem masks_ok : ∀ {ops : List Oper} {acc ms : List Nat}, masks ops acc = some ms → (∀ (i k : Nat), acc[i]? = some k → ms[i]? = some k) ∧
    ∀ (i : Nat) (o : Oper), ops[i]? = some o → ∃ m, ms[acc.length + i]? = some m ∧
      ∀ j, m.testBit j = true → ∃ e ∈ o.after.toList, Region.binds .any e = true ∧ (j = e.on ∨ ∃ k, ms[e.on]? = some k ∧ k.testBit j = true)
  | [], acc, ms, h => by
    simp only [masks, Option.some.injEq] at h; subst h
    exact ⟨fun i k h => h, fun i o h => by simp at h⟩
  | o :: os, acc, ms, h => by
    simp only [masks] at h
    split at h
    · rename_i m hm
      obtain ⟨i1, i2⟩ := masks_ok h
      have d2 := depM_ok hm
      have hacc : ∀ (i k : Nat), acc[i]? = some k → ms[i]? = some k := fun i k hk => i1 i k (by
        have hlt := (List.getElem?_eq_some_iff.1 hk).1
        rw [List.getElem?_append_left hlt]; exact hk)
      refine ⟨hacc, fun i o' ho => ?_⟩
      cases i with
      | zero =>
        simp only [List.getElem?_cons_zero, Option.some.injEq] at ho; subst ho
        refine ⟨m, i1 _ _ (by simp), fun j hj => ?_⟩
        obtain ⟨e, h1, h2, h3⟩ := d2 j hj
        exact ⟨e, h1, h2, h3.imp id fun ⟨k, h4, h5⟩ => ⟨k, hacc _ _ h4, h5⟩⟩
      | succ i =>
        simp only [List.getElem?_cons_succ] at ho
        obtain ⟨m', h1, h3⟩ := i2 i o' ho
        simp only [List.length_append, List.length_singleton] at h1
        exact ⟨m', by rw [← h1]; congr 1; omega, h3⟩
    · cases h
theorem chk2_ok : ∀ {x : Ex} {ms : List Nat} {acc : List (Nat × (EffX × Option Tmp))} {i : Nat}, chk2 acc i x ms = true →
    ∀ (j : Nat) (p : EffX × Option Tmp) (m : Nat), x[j]? = some p → ms[j]? = some m → (∀ q ∈ acc, conf q.2 p = true → m.testBit q.1 = true) ∧ ∀ (j' : Nat) (p' : EffX × Option Tmp), j' < j → x[j']? = some p' → conf p' p = true → m.testBit (i + j') = true
  | [], _, _, _, _, j, p, m, h, _ => by simp at h
  | p :: r, [], _, _, h, _, _, _, _, _ => by simp [chk2] at h
  | p :: r, m :: ms, acc, i, h, j, p1, m1, hj, hm => by
    simp only [chk2, Bool.and_eq_true, List.all_eq_true, Bool.or_eq_true, Bool.not_eq_true'] at h
    cases j with
    | zero =>
      simp only [List.getElem?_cons_zero, Option.some.injEq] at hj hm
      subst hj; subst hm
      refine ⟨fun q hq hc => (h.1 q hq).resolve_left (by rw [hc]; exact fun h => by cases h), fun j' p' hlt => by omega⟩
    | succ j =>
      simp only [List.getElem?_cons_succ] at hj hm
      obtain ⟨h1, h2⟩ := chk2_ok h.2 j p1 m1 hj hm
      refine ⟨fun q hq => h1 q (by simp [hq]), fun j' p' hlt hp' hc => ?_⟩
      cases j' with
      | zero =>
        simp only [List.getElem?_cons_zero, Option.some.injEq] at hp'
        subst hp'
        exact h1 (i, p) (by simp) hc
      | succ j' =>
        simp only [List.getElem?_cons_succ] at hp'
        have := h2 j' p' (by omega) hp' hc
        rw [← this]; congr 1; omega
theorem exOf_get : ∀ {es : List EffX} {ops : List Oper} {i : Nat} {e : EffX} {o : Oper}, es[i]? = some e → ops[i]? = some o → (exOf es ops)[i]? = some (e, o.dst)
  | [], _, i, _, _, h, _ => by simp at h
  | _ :: _, [], i, _, _, _, h => by simp at h
  | e :: es, o :: os, i, _, _, h1, h2 => by
    cases i with
    | zero => simp only [List.getElem?_cons_zero, Option.some.injEq] at h1 h2; subst h1; subst h2; rfl
    | succ i => simp only [List.getElem?_cons_succ] at h1 h2; simp only [exOf, List.getElem?_cons_succ]; exact exOf_get h1 h2

/-- who waits for whom, closed: what a drawn order must keep -/
structure Deps (ops : Array Oper) (x : Ex) (M : Nat → Nat → Prop) : Prop where
  back : ∀ i k, Direct ops i k → k < i
  ranked : ∀ md, Ranked ops md
  dir : ∀ i j, i < ops.size → M i j → ∃ k, Direct ops i k ∧ (j = k ∨ M k j)
  apart : ∀ (j i : Nat) (p q : EffX × Option Tmp), j < i → i < ops.size → x[j]? = some p → x[i]? = some q → conf p q = true → M i j

theorem chkE_deps {ops : Array Oper} {es : List EffX} {gk : List Nat} (hc : chkE ops.toList es gk = true) : ∃ M, Deps ops (exOf es ops.toList) M := by
  unfold chkE at hc
  split at hc
  · rename_i ms hm
    simp only [Bool.and_eq_true] at hc
    obtain ⟨hrk, hc⟩ := hc
    obtain ⟨_, m2⟩ := masks_ok hm
    simp only [List.length_nil, Nat.zero_add] at m2
    have rk : ∀ (i : Nat) (o : Oper), ops[i]? = some o → ∀ e : Edge, e ∈ o.after → e.on < ops.size ∧ (Region.binds .text e = true → e.on < i) ∧ (Region.binds .gc e = true → rkOf gk e.on < rkOf gk i) := by
      intro i o ho e he
      have := rankE_ok hrk i o (by simpa using ho)
      rw [Nat.zero_add] at this
      have := rank1_ok this e (by simpa using he)
      simpa using this
    refine ⟨fun i j => ∃ m, ms[i]? = some m ∧ m.testBit j = true, fun i k ⟨o, ho, e, he, hbd, hk⟩ => ?_, fun md => ?_, fun i j hi ⟨m, h1, h2⟩ => ?_, fun j i p q hji hi hp hq hcf => ?_⟩
    · rw [← hk]; exact (rk i o ho e he).2.1 (binds_any hbd)
    · cases md with
      | text => exact ⟨id, fun i o ho e he hbd => ⟨(rk i o ho e he).2.1 hbd, (rk i o ho e he).1⟩⟩
      | gc => exact ⟨rkOf gk, fun i o ho e he hbd => ⟨(rk i o ho e he).2.2 hbd, (rk i o ho e he).1⟩⟩
      | any => exact ⟨id, fun i o ho e he hbd => ⟨(rk i o ho e he).2.1 (binds_any hbd), (rk i o ho e he).1⟩⟩
    · have ho : ops[i]? = some ops[i] := by simp [hi]
      obtain ⟨m', h3, h4⟩ := m2 i ops[i] (by simp [hi])
      rw [h1] at h3; injection h3 with h3; subst h3
      obtain ⟨e, e1, e2, e3⟩ := h4 j h2
      exact ⟨e.on, ⟨ops[i], ho, e, by simpa using e1, e2, rfl⟩, e3.imp id fun ⟨k, h5, h6⟩ => ⟨k, h5, h6⟩⟩
    · obtain ⟨m, h3, _⟩ := m2 i ops[i] (by simp [hi])
      have := (chk2_ok hc i q m hq h3).2 j p hji hp hcf
      exact ⟨m, h3, by simpa using this⟩
  · cases hc

theorem Order.deps {ops : Array Oper} {x : Ex} {M : Nat → Nat → Prop} {l : List Nat} (hl : Order ops l) (hM : Deps ops x M) : ∀ i a r j, l = a ++ i :: r → M i j → j ∈ a := by
  intro i
  induction i using Nat.strongRecOn with
  | _ i ih =>
    intro a r j he hm
    have hi : i < ops.size := (hl.mem i).1 (by rw [he]; simp)
    obtain ⟨k, hk, h⟩ := hM.dir i j hi hm
    have hka := hl.pre a i r he k hk
    rcases h with rfl | h
    · exact hka
    · obtain ⟨a1, a2, ha⟩ := List.append_of_mem hka
      have hlt : k < i := hM.back i k hk
      have := ih k hlt a1 (a2 ++ i :: r) j (by rw [he, ha]; simp) h
      rw [ha]; simp [this]
/-- where one stands behind another one, that one stands not behind it -/
theorem Order.once {ops : Array Oper} {l : List Nat} (hl : Order ops l) {a r : List Nat} {i : Nat} (he : l = a ++ i :: r) : i ∉ a ∧ i ∉ r ∧ ∀ j, j ∈ a → j ∉ r := by
  have nd := hl.nodup
  rw [he] at nd
  obtain ⟨n1, n2, n3⟩ := List.nodup_append.1 nd
  obtain ⟨n4, n5⟩ := List.nodup_cons.1 n2
  exact ⟨fun h => n3 i h i (by simp) rfl, n4, fun j h1 h2 => n3 j h1 j (by simp [h2]) rfl⟩

theorem conf_ww {x : Ex} {s j i : Nat} {p q : EffX × Option Tmp} (hp : x[j]? = some p) (hq : x[i]? = some q) (h1 : wrs x s j = true) (h2 : wrs x s i = true) : conf p q = true := by
  unfold wrs at h1 h2
  rw [hp] at h1; rw [hq] at h2
  unfold conf
  rw [Bool.or_eq_true, List.any_eq_true]
  exact .inl ⟨s, inL_iff.1 h1, by simp only [Bool.or_eq_true]; exact .inr h2⟩
theorem wr_some {x : Ex} {s i : Nat} (h : wrs x s i = true) : ∃ p, x[i]? = some p := by
  unfold wrs at h
  cases hx : x[i]? with
  | none => rw [hx] at h; cases h
  | some p => exact ⟨p, rfl⟩
/-- the writers of a slot stand in the text's order -/
theorem writers_rise {ops : Array Oper} {x : Ex} {M : Nat → Nat → Prop} {l : List Nat} (hl : Order ops l) (hM : Deps ops x M) {s : Nat} : ∀ (b c : List Nat), l = b ++ c → (b.filter (wrs x s)).Pairwise (· < ·) := by
  intro b
  induction hb : b.length generalizing b with
  | zero => intro c _; rw [List.eq_nil_of_length_eq_zero hb]; simp
  | succ n ih =>
    intro c he
    rcases List.eq_nil_or_concat b with rfl | ⟨b', i, rfl⟩
    · simp
    · rw [List.concat_eq_append] at he hb ⊢
      simp only [List.length_append, List.length_singleton, Nat.add_right_cancel_iff] at hb
      have ih := ih b' hb ([i] ++ c) (by rw [he]; simp)
      rw [List.filter_append, List.pairwise_append]
      refine ⟨ih, ?_, fun j hj k hk => ?_⟩
      · cases hw : wrs x s i <;> simp [hw]
      · simp only [List.mem_filter] at hj hk
        simp only [List.mem_singleton] at hk
        obtain ⟨rfl, hwk⟩ := hk
        have hel : l = b' ++ k :: c := by rw [he]; simp
        obtain ⟨n1, n2, n3⟩ := hl.once hel
        rcases Nat.lt_trichotomy j k with h | h | h
        · exact h
        · subst h; exact absurd hj.1 n1
        · exfalso
          obtain ⟨p, hp⟩ := wr_some hj.2
          obtain ⟨q, hq⟩ := wr_some hwk
          have hj' : j < ops.size := (hl.mem j).1 (by rw [hel]; simp [hj.1])
          have hm := hM.apart k j q p h hj' hq hp (conf_ww hq hp hwk hj.2)
          obtain ⟨b1, b2, hb12⟩ := List.append_of_mem hj.1
          have := hl.deps hM j b1 (b2 ++ k :: c) k (by rw [hel, hb12]; simp) hm
          exact n1 (by rw [hb12]; simp [this])
end Go.X
namespace Go.X
open Go
variable {V : Env} {cx : Cx}

/-- a box that is told anew in place keeps its slot's version: who asks for the box alone need not wait -/
def boxSl (g : Lk) (s : Nat) : Bool :=
  match g s with
  | some (_, .box ..) => true
  | _ => false
def softMd (m : Nat × S) : Bool :=
  match m.2 with
  | .box .. => true
  | _ => false
def hardW (p : EffX × Option Tmp) : List Nat := (p.1.md.filter fun m => !softMd m).map (·.1) ++ (p.1.pt.map (·.1) ++ slots p.2)
def softSl (g : Lk) (x : Ex) (s : Nat) : Bool := boxSl g s && x.all fun p => !inL (hardW p) s
def shOp : Op → Bool
  | .move _ => true
  | .nilCheck _ => true
  | .fieldAddr .. => true
  | _ => false
def shRes : S → Bool
  | .ref _ => true
  | .adr .. => true
  | _ => false
def noG (o : Oper) : Bool :=
  match o.guard with
  | none => true
  | some _ => false
def soft1 (g : Lk) (x : Ex) (e : EffX) (o : Oper) : EffX := bif noG o && (shOp o.op && shRes e.res) then { e with rd := e.rd.filter fun s => !softSl g x s } else e
def softL (g : Lk) (x : Ex) : List EffX → List Oper → List EffX
  | e :: es, o :: os => soft1 g x e o :: softL g x es os
  | _, _ => []
def chkS (g : Lk) (ops : List Oper) (es : List EffX) (gk : List Nat) : Bool := chkE ops (softL g (exOf es ops) es ops) gk

def BoxEq (g g' : Lk) (s : Nat) : Prop := ∃ k t cs t' cs', g s = some (k, .box t cs) ∧ g' s = some (k, .box t' cs')
/-- the same slots, but for boxes that are told otherwise -/
def Soft (g g' : Lk) (l : List Nat) : Prop := ∀ s ∈ l, g' s = g s ∨ BoxEq g g' s
theorem boxAt_soft {g g' : Lk} {s k : Nat} {p : TypeId × List C} (h : boxAt g s k = some p) (hs : g' s = g s ∨ BoxEq g g' s) : ∃ p', boxAt g' s k = some p' := by
  rcases hs with hs | ⟨k', t, cs, t', cs', h1, h2⟩
  · exact ⟨p, by rw [boxAt_congr hs]; exact h⟩
  · have := boxAt_spec (t := p.1) (cs := p.2) h
    rw [h1] at this
    injection this with this
    injection this with this _
    subst this
    exact ⟨(t', cs'), by simp [boxAt, h2]⟩
theorem src_soft {g g' : Lk} {x : Operand} {t : Option Nat} {k : Nat} {y : S} (h : src g x = some (t, k, y)) (hg : ∀ q, t = some q → g' q = g q ∨ BoxEq g g' q) (hy : ∀ bt cs, y ≠ .box bt cs) : src g' x = some (t, k, y) := by
  cases x with
  | tmp q =>
    simp only [src] at h ⊢
    split at h
    · rename_i k' y' hq
      simp only [Option.some.injEq, Prod.mk.injEq] at h
      obtain ⟨rfl, rfl, rfl⟩ := h
      rcases hg q rfl with h1 | ⟨_, _, _, _, _, h1, _⟩
      · rw [h1, hq]
      · rw [hq] at h1
        injection h1 with h1
        injection h1 with _ h1
        exact absurd h1 (hy _ _)
    · cases h
  | _ => exact h
theorem src_box {g g' : Lk} {x : Operand} {q k : Nat} {t : TypeId} {cs : List C} (h : src g x = some (some q, k, .box t cs)) (hg : g' q = g q ∨ BoxEq g g' q) : ∃ t' cs', src g' x = some (some q, k, .box t' cs') := by
  cases x with
  | tmp q' =>
    simp only [src] at h ⊢
    split at h
    · rename_i k' y' hq
      simp only [Option.some.injEq, Prod.mk.injEq] at h
      obtain ⟨rfl, rfl, rfl⟩ := h
      rcases hg with h1 | ⟨k2, _, _, t', cs', h1, h2⟩
      · exact ⟨t, cs, by rw [h1, hq]⟩
      · rw [hq] at h1
        injection h1 with h1
        injection h1 with h1 _
        subst h1
        exact ⟨t', cs', by rw [h2]⟩
    · cases h
  | const v =>
    simp only [src, cond_eq_ite] at h
    split at h
    · simp at h
    · cases h
  | _ => simp [src] at h
theorem addrOf_soft {g g' : Lk} {x : Operand} {rd : List Nat} {s k off : Nat} (h : addrOf g x = some (rd, .adr s k off)) (hg : Soft g g' rd) : addrOf g' x = some (rd, .adr s k off) := by
  unfold addrOf at h
  split at h
  · rename_i t k' bt cs hx
    simp only [Option.some.injEq, Prod.mk.injEq, S.adr.injEq] at h
    obtain ⟨rfl, rfl, rfl, rfl⟩ := h
    obtain ⟨t', cs', h1⟩ := src_box hx (hg t (by simp))
    unfold addrOf; rw [h1]
  · rename_i sl k' r hx
    split at h
    · rename_i kk bt cs hrc hr
      cases hb : Nat.beq kk r.k with
      | false => rw [hb] at h; simp at h
      | true =>
        rw [hb] at h
        simp only [cond_true, Option.some.injEq, Prod.mk.injEq, S.adr.injEq] at h
        obtain ⟨rfl, rfl, rfl, rfl⟩ := h
        have h1 := src_soft hx (fun q hq => hg q (by subst hq; simp [slots])) (fun _ _ h => by cases h)
        have h2 : ∃ t' cs', g' r.s = some (kk, .box t' cs') := by
          rcases hg r.s (by simp) with h2 | ⟨k2, _, _, t', cs', h2, h3⟩
          · exact ⟨bt, cs, by rw [h2, hr]⟩
          · rw [hr] at h2; injection h2 with h2; injection h2 with h2 _; subst h2; exact ⟨t', cs', h3⟩
        obtain ⟨t', cs', h2⟩ := h2
        unfold addrOf; rw [h1]; simp only [hrc, h2, hb, cond_true]
    · cases h
  · rename_i sl k' t kk o hx
    split at h
    · rename_i p hp
      simp only [Option.some.injEq, Prod.mk.injEq, S.adr.injEq] at h
      obtain ⟨rfl, rfl, rfl, rfl⟩ := h
      have h1 := src_soft hx (fun q hq => hg q (by subst hq; simp [slots])) (fun _ _ h => by cases h)
      obtain ⟨p', h2⟩ := boxAt_soft hp (hg t (by simp))
      unfold addrOf; rw [h1]; simp only [h2]
    · cases h
  · split at h
    · simp at h
    · cases h
  · simp at h
  · simp [oneD] at h
  · cases h
theorem core_soft {T : Tab} {g g' : Lk} {tk : Bool} {o : Op} {e : Eff} (ho : shOp o = true) (h : core T g tk o = some e) (hr : shRes e.res = true) (hg : Soft g g' e.rd) : core T g' tk o = some e := by
  cases o with
  | move x =>
    have h : moveE g tk x = some e := h
    show moveE g' tk x = some e
    cases hx : src g x with
    | none => unfold moveE at h; rw [hx] at h; cases h
    | some p =>
      obtain ⟨t, k, y⟩ := p
      have hrd : ∀ q, t = some q → q ∈ e.rd := fun q hq => move_rd h q (by rw [← src_slots hx, hq]; simp [slots])
      by_cases hy : ∃ bt cs, y = .box bt cs
      · obtain ⟨bt, cs, rfl⟩ := hy
        cases t with
        | none =>
          have : src g' x = src g x := by
            cases x with
            | tmp q =>
              simp only [src] at hx
              split at hx
              · simp at hx
              · cases hx
            | _ => rfl
          unfold moveE at h ⊢; rw [this]; exact h
        | some q =>
          obtain ⟨t', cs', h1⟩ := src_box hx (hg q (hrd q rfl))
          unfold moveE at h ⊢; rw [hx] at h; rw [h1]; exact h
      · have h1 := src_soft hx (fun q hq => hg q (hrd q hq)) (fun bt cs h => hy ⟨bt, cs, h⟩)
        unfold moveE at h ⊢; rw [hx] at h; rw [h1]; exact h
  | nilCheck x =>
    have h : nilCheckE g x = some e := h
    show nilCheckE g' x = some e
    unfold nilCheckE at h
    split at h
    · rename_i s k bt cs hx
      simp only [eff, Option.some.injEq] at h
      subst h
      obtain ⟨t', cs', h1⟩ := src_box hx (hg s (by simp))
      unfold nilCheckE; rw [h1]; rfl
    · rename_i s k r hx
      split at h
      · rename_i kk bt cs hrc hr'
        cases hb : Nat.beq kk r.k with
        | false => rw [hb] at h; cases h
        | true =>
          rw [hb] at h
          simp only [cond_true, eff, Option.some.injEq] at h
          subst h
          have h1 := src_soft hx (fun q hq => hg q (by injection hq with hq; subst hq; simp)) (fun _ _ h => by cases h)
          have h2 : ∃ t' cs', g' r.s = some (kk, .box t' cs') := by
            rcases hg r.s (by simp) with h2 | ⟨k2, _, _, t', cs', h2, h3⟩
            · exact ⟨bt, cs, by rw [h2, hr']⟩
            · rw [hr'] at h2; injection h2 with h2; injection h2 with h2 _; subst h2; exact ⟨t', cs', h3⟩
          obtain ⟨t', cs', h2⟩ := h2
          unfold nilCheckE; rw [h1]; simp only [hrc, h2, hb, cond_true]; rfl
      · cases h
    · simp only [eff, Option.some.injEq] at h; subst h; simp [shRes, oneD] at hr
    · rename_i s k t kk o hx
      split at h
      · rename_i p hp
        simp only [eff, Option.some.injEq] at h
        subst h
        have h1 := src_soft hx (fun q hq => hg q (by injection hq with hq; subst hq; simp)) (fun _ _ h => by cases h)
        obtain ⟨p', h2⟩ := boxAt_soft hp (hg t (by simp))
        unfold nilCheckE; rw [h1]; simp only [h2]; rfl
      · cases h
    · cases h
  | fieldAddr t x i =>
    have h : fieldAddrE T g t x i = some e := h
    show fieldAddrE T g' t x i = some e
    unfold fieldAddrE at h ⊢
    split at h
    · rename_i fs hk
      split at h
      · rename_i ft o rd s k off hi ha
        cases hkn : kn T ft with
        | false => rw [hkn] at h; cases h
        | true =>
          rw [hkn] at h
          simp only [Bool.not_true, cond_false, eff, Option.some.injEq] at h
          subst h
          rw [hi, addrOf_soft ha hg]
          simp only [hkn, Bool.not_true, cond_false]; rfl
      · simp only [cond_eq_ite] at h
        split at h
        · cases h
        · simp only [eff, Option.some.injEq] at h; subst h; simp [shRes] at hr
      · simp only [cond_eq_ite] at h
        split at h
        · cases h
        · simp only [eff, Option.some.injEq] at h; subst h; simp [shRes] at hr
      · simp only [cond_eq_ite] at h
        split at h
        · cases h
        · simp only [eff, Option.some.injEq] at h; subst h; simp [shRes, oneD] at hr
      · cases h
    · cases h
  | _ => simp [shOp] at ho
theorem coreE_soft {T : Tab} {g g' : Lk} {tk : Bool} {o : Oper} {orc r : List Or} {e : Eff} (ho : shOp o.op = true) (h : coreE T g tk o orc = some (e, r)) (hr : shRes e.res = true) (hg : Soft g g' e.rd) : coreE T g' tk o orc = some (e, r) := by
  have key : ∀ {z : List Or}, (match core T g tk o.op with
      | some e => some (e, z)
      | none => none) = some (e, r) → (match core T g' tk o.op with
      | some e => some (e, z)
      | none => none) = some (e, r) := by
    intro z h
    split at h
    · rename_i e' he
      injection h with h; injection h with h h2; subst h; subst h2
      rw [core_soft ho he hr hg]
    · cases h
  unfold coreE at h ⊢
  split at h
  · rename_i x r' hx; rw [hx] at ho; cases ho
  · rename_i x r' hx; rw [hx] at ho; cases ho
  · rename_i r' _ _
    have hia : isAppend o.op = false := by cases hx : o.op <;> rw [hx] at ho <;> first | rfl | cases ho
    rw [hia] at h ⊢
    exact key h
  · exact key h
theorem stepE_soft {V : Env} {all : List Oper} {g g' : Lk} {o : Oper} {orc r : List Or} {e : EffX} (h : stepE V all g o orc = some (e, r)) (hn : noG o = true) (ho : shOp o.op = true) (hr : shRes e.res = true) (hg : Soft g g' e.rd) : stepE V all g' o orc = some (e, r) := by
  unfold stepE at h ⊢
  cases hd : dstOk V o.dst with
  | false => rw [hd] at h; simp at h
  | true =>
    rw [hd] at h
    simp only [Bool.not_true, cond_false] at h ⊢
    split at h
    · unfold opE at h ⊢
      have h1 : callOf o.op = none := by cases hx : o.op <;> rw [hx] at ho <;> first | rfl | cases ho
      have h2 : invOf o.op = none := by cases hx : o.op <;> rw [hx] at ho <;> first | rfl | cases ho
      have h3 : storeOf o.op orc = none := by cases hx : o.op <;> rw [hx] at ho <;> first | rfl | cases ho
      rw [h1, h2, h3] at h ⊢
      simp only at h ⊢
      cases hst : (isStore o.op && o.dst.isSome) with
      | true => rw [hst] at h; simp at h
      | false =>
        rw [hst] at h
        simp only [cond_false] at h ⊢
        split at h
        · rename_i e' r' hce
          injection h with h; injection h with h h4; subst h; subst h4
          rw [coreE_soft ho hce hr hg]
        · cases h
    · rename_i j want hgd
      unfold noG at hn
      rw [hgd] at hn
      cases hn
theorem lkMods_soft : ∀ {l : List (Nat × S)} {g : Lk} {s k : Nat} {t : TypeId} {cs : List C}, g s = some (k, .box t cs) → inL ((l.filter fun m => !softMd m).map (·.1)) s = false → ∃ t' cs', lkMods g l s = some (k, .box t' cs')
  | [], g, s, k, t, cs, h, _ => ⟨t, cs, h⟩
  | (q, x) :: r, g, s, k, t, cs, h, hi => by
    have hr : inL ((r.filter fun m => !softMd m).map (·.1)) s = false := by
      cases hin : inL ((r.filter fun m => !softMd m).map (·.1)) s with
      | false => rfl
      | true =>
        have := inL_iff.1 hin
        have : inL (((q, x) :: r).filter (fun m => !softMd m) |>.map (·.1)) s = true := inL_iff.2 (by
          rw [List.filter_cons]
          split
          · simp only [List.map_cons, List.mem_cons]; exact .inr this
          · exact this)
        rw [this] at hi; cases hi
    by_cases hq : s = q
    · subst hq
      cases hx : softMd (s, x) with
      | false =>
        have : inL (((s, x) :: r).filter (fun m => !softMd m) |>.map (·.1)) s = true := inL_iff.2 (by
          rw [List.filter_cons, if_pos (by rw [hx]; rfl)]; simp)
        rw [this] at hi; cases hi
      | true =>
        unfold softMd at hx
        split at hx
        · rename_i t' cs' hxx
          simp only at hxx
          subst hxx
          have h' : lkMod g s (.box t' cs') s = some (k, .box t' cs') := by simp [lkMod, h]
          exact lkMods_soft (l := r) h' hr
        · cases hx
    · have h' : lkMod g q x s = some (k, .box t cs) := by simp [lkMod, hq, h]
      exact lkMods_soft (l := r) h' hr
theorem uponX_soft {g : Lk} {e : EffX} {d : Option Tmp} {s k : Nat} {t : TypeId} {cs : List C} (h : g s = some (k, .box t cs)) (hi : inL (hardW (e, d)) s = false) : ∃ t' cs', uponX g e d s = some (k, .box t' cs') := by
  have h1 : inL ((e.md.filter fun m => !softMd m).map (·.1)) s = false ∧ (∀ m ∈ e.pt, m.1 ≠ s) ∧ d ≠ some s := by
    refine ⟨?_, fun m hm he => ?_, fun hd => ?_⟩
    · cases hin : inL ((e.md.filter fun m => !softMd m).map (·.1)) s with
      | false => rfl
      | true =>
        have : inL (hardW (e, d)) s = true := inL_iff.2 (List.mem_append.2 (.inl (inL_iff.1 hin)))
        rw [this] at hi; cases hi
    · have : inL (hardW (e, d)) s = true := inL_iff.2 (List.mem_append.2 (.inr (List.mem_append.2 (.inl (List.mem_map.2 ⟨m, hm, he⟩)))))
      rw [this] at hi; cases hi
    · have : inL (hardW (e, d)) s = true := inL_iff.2 (List.mem_append.2 (.inr (List.mem_append.2 (.inr (by show s ∈ slots d; rw [hd]; simp [slots])))))
      rw [this] at hi; cases hi
  obtain ⟨t', cs', h2⟩ := lkMods_soft h h1.1
  refine ⟨t', cs', ?_⟩
  unfold uponX
  cases d with
  | none => show lkPuts _ _ s = _; rw [lkPuts_off h1.2.1]; exact h2
  | some q =>
    have hq : s ≠ q := fun e => h1.2.2 (by rw [e])
    show lkPut _ q _ s = _
    simp only [lkPut, hq, if_false]
    rw [lkPuts_off h1.2.1]; exact h2
theorem acts_soft {x : Ex} {g : Lk} {s k : Nat} {t : TypeId} {cs : List C} (h : g s = some (k, .box t cs)) (hx : ∀ p ∈ x, inL (hardW p) s = false) : ∀ (l : List Nat), ∃ t' cs', acts x g l s = some (k, .box t' cs') := by
  intro l
  induction l generalizing g t cs with
  | nil => exact ⟨t, cs, h⟩
  | cons i l ih =>
    have : ∃ t' cs', act x g i s = some (k, .box t' cs') := by
      unfold act
      cases hi : x[i]? with
      | none => exact ⟨t, cs, h⟩
      | some p => exact uponX_soft h (hx p (List.mem_of_getElem? hi))
    obtain ⟨t', cs', h'⟩ := this
    exact ih h'
theorem softL_get : ∀ {es : List EffX} {ops : List Oper} {g : Lk} {x : Ex} {i : Nat} {e : EffX} {o : Oper}, es[i]? = some e → ops[i]? = some o → (softL g x es ops)[i]? = some (soft1 g x e o)
  | [], _, _, _, i, _, _, h, _ => by simp at h
  | _ :: _, [], _, _, i, _, _, _, h => by simp at h
  | e :: es, o :: os, g, x, i, _, _, h1, h2 => by
    cases i with
    | zero => simp only [List.getElem?_cons_zero, Option.some.injEq] at h1 h2; subst h1; subst h2; rfl
    | succ i => simp only [List.getElem?_cons_succ] at h1 h2; simp only [softL, List.getElem?_cons_succ]; exact softL_get h1 h2
theorem soft1_same (g : Lk) (x : Ex) (e : EffX) (o : Oper) : (soft1 g x e o).md = e.md ∧ (soft1 g x e o).pt = e.pt ∧ (soft1 g x e o).res = e.res := by
  unfold soft1
  cases noG o && (shOp o.op && shRes e.res) <;> exact ⟨rfl, rfl, rfl⟩
theorem writes_soft (g : Lk) (x : Ex) (e : EffX) (o : Oper) : writesOf (soft1 g x e o) o.dst = writesOf e o.dst := by
  obtain ⟨h1, h2, _⟩ := soft1_same g x e o
  unfold writesOf; rw [h1, h2]
theorem acts_shift (p : EffX × Option Tmp) (x : Ex) : ∀ (l : List Nat) (g : Lk), acts (p :: x) g (l.map (· + 1)) = acts x g l
  | [], _ => rfl
  | i :: l, g => by
    simp only [List.map_cons, acts, List.foldl_cons]
    have : act (p :: x) g (i + 1) = act x g i := by simp [act]
    rw [this]
    exact acts_shift p x l _
theorem acts_range (e : EffX) (d : Option Tmp) (x : Ex) (g : Lk) (n : Nat) : acts ((e, d) :: x) g (List.range (n + 1)) = acts x (uponX g e d) (List.range n) := by
  rw [List.range_succ_eq_map, acts, List.foldl_cons]
  exact acts_shift (e, d) x _ _

theorem passE_at {all : List Oper} : ∀ {ops : List Oper} {st st' : St} {orc r : List Or} {es : List EffX}, passE V all st ops orc = some (es, st', r) →
    es.length = ops.length ∧ stGet st' = acts (exOf es ops) (stGet st) (List.range ops.length) ∧
    ∀ (i : Nat) (e : EffX) (o : Oper), es[i]? = some e → ops[i]? = some o → ∃ orc' r', stepE V all (acts (exOf es ops) (stGet st) (List.range i)) o orc' = some (e, r')
  | [], st, st', orc, r, es, h => by
    simp only [passE, Option.some.injEq, Prod.mk.injEq] at h
    obtain ⟨rfl, rfl, rfl⟩ := h
    exact ⟨rfl, rfl, fun i e o h => by simp at h⟩
  | o :: os, st, st', orc, r, es, h => by
    simp only [passE] at h
    split at h
    · rename_i e r1 h1
      split at h
      · rename_i es' st1 r2 h2
        simp only [Option.some.injEq, Prod.mk.injEq] at h
        obtain ⟨rfl, rfl, rfl⟩ := h
        obtain ⟨i1, i2, i3⟩ := passE_at h2
        refine ⟨by simp [i1], ?_, fun i e' o' he ho => ?_⟩
        · rw [i2, List.length_cons, exOf, acts_range, stGet_apply]
        · cases i with
          | zero =>
            simp only [List.getElem?_cons_zero, Option.some.injEq] at he ho
            subst he; subst ho
            exact ⟨orc, r1, h1⟩
          | succ i =>
            simp only [List.getElem?_cons_succ] at he ho
            obtain ⟨orc', r', h3⟩ := i3 i e' o' he ho
            exact ⟨orc', r', by rw [exOf, acts_range, ← stGet_apply]; exact h3⟩
      · cases h
    · cases h
theorem preOf_at : ∀ {es : List EffX} {i : Nat} {e : EffX}, (preOf es).h → es[i]? = some e → e.pre.h
  | [], i, e, _, h => by simp at h
  | e :: es, i, e', hp, h => by
    cases i with
    | zero => simp only [List.getElem?_cons_zero, Option.some.injEq] at h; subst h; exact hp.1
    | succ i => simp only [List.getElem?_cons_succ] at h; exact preOf_at hp.2 h

/-- running the operations that are left, in an order in which each sees what it saw in the text's order -/
theorem run_ops (hV : EnvOk cx V) {ops : Array Oper} {st st' : St} {orc r : List Or} {es : List EffX} (hp : passE V ops.toList st ops.toList orc = some (es, st', r)) (hpre : (preOf es).h)
    {l : List Nat} (hin : ∀ i ∈ l, i < ops.size) (hag : ∀ a i b, l = a ++ i :: b → ∀ e o, es[i]? = some e → ops[i]? = some o → Agree (acts (exOf es ops.toList) (stGet st) (List.range i)) (acts (exOf es ops.toList) (stGet st) a) e.rd ∨
      ((noG o && (shOp o.op && shRes e.res)) = true ∧ Soft (acts (exOf es ops.toList) (stGet st) (List.range i)) (acts (exOf es ops.toList) (stGet st) a) e.rd))
    {Q : Exit → Act → World → Prop} (hQ : ∀ a w, Sim cx (acts (exOf es ops.toList) (stGet st) l) a w → Q .normal a w) :
    ∀ (b a : List Nat), l = a ++ b → ∀ ac w, Sim cx (acts (exOf es ops.toList) (stGet st) a) ac w → wpOps cx.P ops Q b ac w := by
  obtain ⟨hlen, _, hat⟩ := passE_at hp
  intro b
  induction b with
  | nil =>
    intro a he ac w hs
    simp only [List.append_nil] at he
    subst he
    exact hQ ac w hs
  | cons i b ih =>
    intro a he ac w hs
    have hi : i < ops.size := hin i (by rw [he]; simp)
    have ho : ops[i]? = some ops[i] := by simp [hi]
    have hol : ops.toList[i]? = some ops[i] := by simp [hi]
    have hel : i < es.length := by rw [hlen]; simpa using hi
    have hee : es[i]? = some es[i] := by simp [hel]
    obtain ⟨orc', r', hst⟩ := hat i es[i] ops[i] hee hol
    have hstep : stepE V ops.toList (acts (exOf es ops.toList) (stGet st) a) ops[i] orc' = some (es[i], r') := by
      rcases hag a i b he es[i] ops[i] hee ho with h | ⟨h1, h2⟩
      · exact stepE_local hst h
      · simp only [Bool.and_eq_true] at h1
        exact stepE_soft hst h1.1 h1.2.1 h1.2.2 h2
    have hnext : acts (exOf es ops.toList) (stGet st) (a ++ [i]) = uponX (acts (exOf es ops.toList) (stGet st) a) es[i] ops[i].dst := by
      simp only [acts, List.foldl_append, List.foldl_cons, List.foldl_nil]
      simp only [act, exOf_get hee hol]
    have hok := stepE_ok hV hstep (preOf_at hpre hee) hs
    rw [← hnext] at hok
    simp only [wpOps, ho]
    rcases hok with ⟨hw, hrun⟩ | ⟨hw, hs'⟩
    · rw [if_pos hw]
      exact .inl (hrun _ _ fun a' w' hs' => ih (a ++ [i]) (by rw [he]; simp) a' w' hs')
    · rw [if_neg (by rw [hw]; simp)]
      exact ih (a ++ [i]) (by rw [he]; simp) _ w hs'

theorem Sim.drew {g : Lk} {a : Act} {w : World} (hs : Sim cx g a w) : Sim cx g a { w with drawn := w.drawn + 1 } := by
  obtain ⟨h, bs, M⟩ := hs
  exact ⟨h, bs, M.drew⟩

theorem wrs_lt {es : List EffX} {ops : Array Oper} {s i : Nat} (h : wrs (exOf es ops.toList) s i = true) : i < ops.size := by
  have : ∀ (es : List EffX) (l : List Oper) (i : Nat) p, (exOf es l)[i]? = some p → i < l.length := by
    intro es
    induction es with
    | nil => intro l i p h; cases l <;> simp [exOf] at h
    | cons e es ih =>
      intro l i p h
      cases l with
      | nil => simp [exOf] at h
      | cons o l =>
        cases i with
        | zero => simp
        | succ i => simp only [exOf, List.getElem?_cons_succ] at h; have := ih l i p h; simp; omega
  obtain ⟨p, hp⟩ := wr_some h
  have := this es ops.toList i p hp
  simpa using this

theorem region_run (hV : EnvOk cx V) {gk : List Nat} {id : Nat} {ops : Array Oper} {draw : Bool} {st st' : St} {orc r : List Or} {es : List EffX} (hp : passE V ops.toList st ops.toList orc = some (es, st', r)) (hpre : (preOf es).h)
    (hchk : draw = true → chkS (stGet st) ops.toList es gk = true) {Q : Exit → Act → World → Prop} (hQ : ∀ a w, Sim cx (stGet st') a w → Q .normal a w) {a : Act} {w : World} (hs : Sim cx (stGet st) a w) :
    (Code.region id ops draw).wp cx.P Q a w := by
  obtain ⟨hlen, hend, _⟩ := passE_at hp
  have hsz : ops.toList.length = ops.size := by simp
  rw [hsz] at hend
  cases draw with
  | false =>
    refine wp_region (run_ops hV hp hpre (l := List.range ops.size) (fun i hi => List.mem_range.1 hi) (fun b i c he e o hee ho => .inl ?_) (fun a w h => hQ a w (by rw [hend]; exact h)) _ [] rfl a w hs)
    have : b = List.range i := by
      have h1 := congrArg (List.take b.length) he
      rw [List.take_left' rfl, List.take_range] at h1
      have hl : b.length < ops.size := by
        have := congrArg List.length he
        simp at this; omega
      rw [Nat.min_eq_left (by omega)] at h1
      have h2 : (List.range ops.size)[b.length]? = some i := by rw [he]; simp
      rw [List.getElem?_range hl] at h2
      injection h2 with h2
      rw [← h1, h2]
    rw [this]
    exact fun s _ => rfl
  | true =>
    obtain ⟨M, hM⟩ := chkE_deps (hchk rfl)
    generalize hx' : exOf (softL (stGet st) (exOf es ops.toList) es ops.toList) ops.toList = x' at hM
    have hget : ∀ (i : Nat) (e : EffX) (o : Oper), es[i]? = some e → ops.toList[i]? = some o → x'[i]? = some (soft1 (stGet st) (exOf es ops.toList) e o, o.dst) := fun i e o h1 h2 => by
      rw [← hx']; exact exOf_get (softL_get h1 h2) h2
    have hwr : ∀ s i, wrs x' s i = wrs (exOf es ops.toList) s i := by
      intro s i
      by_cases hi : i < ops.size
      · have ho : ops.toList[i]? = some ops[i] := by simp [hi]
        have hel : i < es.length := by rw [hlen]; simpa using hi
        have hee : es[i]? = some es[i] := by simp [hel]
        unfold wrs
        rw [hget i _ _ hee ho, exOf_get hee ho]
        simp only [writes_soft]
      · have h1 : wrs (exOf es ops.toList) s i = false := by
          cases h : wrs (exOf es ops.toList) s i with
          | false => rfl
          | true => exact absurd (wrs_lt h) hi
        have h2 : wrs x' s i = false := by
          cases h : wrs x' s i with
          | false => rfl
          | true => rw [← hx'] at h; exact absurd (wrs_lt h) hi
        rw [h1, h2]
    refine wp_region_draw fun t => ?_
    have hl := schedule_order hM.ranked (cx.P.follows .mixedOrders) t
    revert hl
    generalize Region.schedule (cx.P.follows .mixedOrders) ops t = l
    intro hl
    -- the writers of a slot, ahead of a place, are those of the text's order
    have same : ∀ (b c : List Nat) (n : Nat) (s : Nat), l = b ++ c → n ≤ ops.size → (∀ j, wrs x' s j = true → (j ∈ b ↔ j < n)) →
        acts (exOf es ops.toList) (stGet st) b s = acts (exOf es ops.toList) (stGet st) (List.range n) s := by
      intro b c n s he hn hj
      rw [acts_filter _ s b rfl, acts_filter _ s (List.range n) rfl]
      refine congrArg (fun l => acts (exOf es ops.toList) (stGet st) l s) ?_
      have hf : wrs (exOf es ops.toList) s = wrs x' s := funext fun i => (hwr s i).symm
      rw [hf]
      refine rising_eq (writers_rise hl hM b c he) (List.Pairwise.filter _ List.pairwise_lt_range) fun j => ?_
      simp only [List.mem_filter, List.mem_range]
      exact ⟨fun ⟨h1, h2⟩ => ⟨(hj j h2).1 h1, h2⟩, fun ⟨h1, h2⟩ => ⟨(hj j h2).2 h1, h2⟩⟩
    have hagr : ∀ (b : List Nat) (i : Nat) (c : List Nat), l = b ++ i :: c → ∀ (e : EffX) (o : Oper), es[i]? = some e → ops.toList[i]? = some o → ∀ s ∈ (soft1 (stGet st) (exOf es ops.toList) e o).rd,
        acts (exOf es ops.toList) (stGet st) b s = acts (exOf es ops.toList) (stGet st) (List.range i) s := by
      intro b i c he e o hee hol s hsr
      have hi : i < ops.size := (hl.mem i).1 (by rw [he]; simp)
      have hxi := hget i e o hee hol
      refine same b (i :: c) i s he (by omega) fun j hw => ?_
      obtain ⟨p, hxj⟩ := wr_some hw
      have hjs : j < ops.size := by rw [← hx'] at hw; exact wrs_lt hw
      have hwp : inL (writesOf p.1 p.2) s = true := by unfold wrs at hw; rw [hxj] at hw; exact hw
      obtain ⟨n1, n2, n3⟩ := hl.once he
      constructor
      · intro hjb
        rcases Nat.lt_trichotomy j i with h | h | h
        · exact h
        · subst h; exact absurd hjb n1
        · exfalso
          have hcf : conf (soft1 (stGet st) (exOf es ops.toList) e o, o.dst) p = true := by
            unfold conf
            rw [Bool.or_eq_true]
            exact .inr (List.any_eq_true.2 ⟨s, hsr, hwp⟩)
          have hm := hM.apart i j _ _ h hjs hxi hxj hcf
          obtain ⟨b1, b2, hb⟩ := List.append_of_mem hjb
          have := hl.deps hM j b1 (b2 ++ i :: c) i (by rw [he, hb]; simp) hm
          exact n1 (by rw [hb]; simp [this])
      · intro hlt
        have hcf : conf p (soft1 (stGet st) (exOf es ops.toList) e o, o.dst) = true := by
          unfold conf
          rw [Bool.or_eq_true]
          exact .inl (List.any_eq_true.2 ⟨s, inL_iff.1 hwp, by rw [Bool.or_eq_true]; exact .inl (inL_iff.2 hsr)⟩)
        exact hl.deps hM i b c j he (hM.apart j i _ _ hlt hi hxj hxi hcf)
    refine run_ops hV hp hpre (l := l) (fun i hi => (hl.mem i).1 hi) (fun b i c he e o hee ho => ?_) (fun a w h => hQ a w ?_) _ [] rfl a _ hs.drew
    · have hol : ops.toList[i]? = some o := by simpa using ho
      have ag := hagr b i c he e o hee hol
      cases hsf : (noG o && (shOp o.op && shRes e.res)) with
      | false =>
        left
        intro s hsr
        refine ag s ?_
        unfold soft1; rw [hsf]; exact hsr
      | true =>
        right
        refine ⟨rfl, fun s hsr => ?_⟩
        cases hso : softSl (stGet st) (exOf es ops.toList) s with
        | false =>
          left
          refine ag s ?_
          unfold soft1; rw [hsf]
          simp only [cond_true, List.mem_filter, hso, Bool.not_false, and_true]
          exact hsr
        | true =>
          right
          unfold softSl at hso
          simp only [Bool.and_eq_true, List.all_eq_true, Bool.not_eq_true'] at hso
          have : ∃ k t cs, stGet st s = some (k, .box t cs) := by
            have h := hso.1
            unfold boxSl at h
            split at h
            · rename_i k t cs hg; exact ⟨k, t, cs, hg⟩
            · cases h
          obtain ⟨k, t, cs, hg⟩ := this
          obtain ⟨t1, cs1, h1⟩ := acts_soft (x := exOf es ops.toList) hg (fun p hp => hso.2 p hp) (List.range i)
          obtain ⟨t2, cs2, h2⟩ := acts_soft (x := exOf es ops.toList) hg (fun p hp => hso.2 p hp) b
          exact ⟨k, t1, cs1, t2, cs2, h1, h2⟩
    · have : stGet st' = acts (exOf es ops.toList) (stGet st) l := by
        rw [hend]
        funext s
        exact (same l [] ops.size s (by simp) (Nat.le_refl _) fun j hw => hl.mem j |>.trans ⟨fun h => h, fun h => h⟩).symm
      rw [this]; exact h
end Go.X
namespace Go.X
open Go

inductive Fin where
  | normal
  | exit (id : Nat)
  | ret
def Fin.x : Fin → Exit
  | .normal => .normal
  | .exit id => .exit id
  | .ret => .ret

/-- from a state, the code comes to its end so, in another state -/
def Runs (cx : Cx) (c : Code) (g : Lk) (e : Fin) (g' : Lk) : Prop :=
  ∀ (Q : Exit → Act → World → Prop) a w, Sim cx g a w → (∀ a' w', Sim cx g' a' w' → Q e.x a' w') → c.wp cx.P Q a w
/-- a loop's body, and the loop again -/
def LoopRuns (cx : Cx) (c : Code) (g : Lk) (e : Fin) (g' : Lk) : Prop :=
  ∀ (Q : Exit → Act → World → Prop) a w, Sim cx g a w → (∀ a' w', Sim cx g' a' w' → Q e.x a' w') → ∀ (b : Frame) (k : List Item) (cs : List Frame),
    ∃ e' a' w', Q e' a' w' ∧ Arrives cx.P (lone (b.at a (.code c :: .inLoop c :: k)) cs w) b k cs e' a' w'
def Loops (V : Env) (c : Code) (l : List (Nat × S)) (e : Fin) (l' : List (Nat × S)) : Prop := ∀ cx, EnvOk cx V → LoopRuns cx c (stGet (st0 l)) e (stGet (st0 l'))
def Goes (V : Env) (c : Code) (l : List (Nat × S)) (e : Fin) (l' : List (Nat × S)) : Prop := ∀ cx, EnvOk cx V → Runs cx c (stGet (st0 l)) e (stGet (st0 l'))

theorem LoopRuns.loop {cx : Cx} {c : Code} {g g' : Lk} {e : Fin} (h : LoopRuns cx c g e g') : Runs cx (.loop c) g e g' :=
  fun Q a w hs hq b k cs => let ⟨e', a', w', q, r⟩ := h Q a w hs hq b k cs; ⟨e', a', w', q, .of_steps (.one step_loop) r⟩
theorem LoopRuns.again {cx : Cx} {c : Code} {g g1 g' : Lk} {e : Fin} (h : Runs cx c g .normal g1) (h' : LoopRuns cx c g1 e g') : LoopRuns cx c g e g' := by
  intro Q a w hs hq b k cs
  obtain ⟨e1, a1, w1, ⟨he, q1⟩, r1⟩ := h (fun e a w => e = .normal ∧ Sim cx g1 a w) a w hs (fun a' w' h => ⟨rfl, h⟩) b (.inLoop c :: k) cs
  subst he
  obtain ⟨e2, a2, w2, q2, r2⟩ := h' Q a1 w1 q1 hq b k cs
  exact ⟨e2, a2, w2, q2, .of_steps (Steps.trans r1 (.one step_inLoop)) r2⟩
theorem LoopRuns.leave {cx : Cx} {c : Code} {g g' : Lk} {e : Fin} (h : Runs cx c g e g') (he : e ≠ .normal) : LoopRuns cx c g e g' := by
  intro Q a w hs hq b k cs
  obtain ⟨e1, a1, w1, ⟨h1, q1⟩, r1⟩ := h (fun e' a w => e' = e.x ∧ Q e' a w) a w hs (fun a' w' h => ⟨rfl, hq a' w' h⟩) b (.inLoop c :: k) cs
  subst h1
  exact ⟨_, a1, w1, q1, .pass (x := .inLoop c) rfl (fun _ _ => .inl (by cases e <;> first | exact absurd rfl he | exact fun h => by cases h)) r1⟩
theorem Loops.again {V : Env} {c : Code} {l l1 l' : List (Nat × S)} {e : Fin} (h : Goes V c l .normal l1) (h' : Loops V c l1 e l') : Loops V c l e l' :=
  fun cx hV => .again (h cx hV) (h' cx hV)
theorem Loops.leave {V : Env} {c : Code} {l l' : List (Nat × S)} {e : Fin} (h : Goes V c l e l') (he : e ≠ .normal) : Loops V c l e l' :=
  fun cx hV => .leave (h cx hV) he

/-- what is foretold of a path, piece by piece -/
inductive It where
  | r (orc : List Or) (keep : List Nat) (gk : List Nat := [])
  | t (b : Bool)
  | l (gin : List (Nat × S)) (e : Fin) (gout : List (Nat × S))
  | f (s : Nat)
  | u (g : List (Nat × S))

/-- freezing and cutting ahead of a piece -/
def prep : St → List It → Option (St × F × List It)
  | st, .f s :: r => match frzE (stGet st) s with
    | some m => prep (mods st [m]) r
    | none => none
  | st, .u l :: r => match cutE (stGet st) l with
    | some p => match prep (st0 l) r with
      | some (st', q, r') => some (st', .c p q, r')
      | none => none
    | none => none
  | st, r => some (st, .t, r)
def condV (g : Lk) (c : Operand) : Option Bool :=
  match scal g c with
  | some (_, .bool t) => some t
  | _ => none

def exec (V : Env) : Code → St → List It → Option (Fin × St × F × List It)
  | .skip, st, r => some (.normal, st, .t, r)
  | .exit id, st, r => some (.exit id, st, .t, r)
  | .ret, st, r => some (.ret, st, .t, r)
  | .seq a b, st, r => match exec V a st r with
    | some (.normal, st1, p1, r1) => match exec V b st1 r1 with
      | some (e, st2, p2, r2) => some (e, st2, .c p1 p2, r2)
      | none => none
    | x => x
  | .cond c a b, st, r => match condV (stGet st) c, r with
    | some t, .t x :: r1 => match (bif x then exec V a st r1 else exec V b st r1) with
      | some (e, st2, p2, r2) => some (e, st2, .c (.a (t = x)) p2, r2)
      | none => none
    | _, _ => none
  | .scope c, st, r => exec V c st r
  | .label _, st, r => some (.normal, st, .t, r)
  | .block id c, st, r => match exec V c st r with
    | some (.exit j, st1, p1, r1) => some (bif Nat.beq j id then .normal else .exit j, st1, p1, r1)
    | x => x
  | .region _ ops draw, st, r => match prep st r with
    | some (st0, p0, .r orc keep gk :: r1) => match passE V ops.toList st0 ops.toList orc with
      | some (es, st1, []) => bif !draw || chkS (stGet st0) ops.toList es gk then some (.normal, keepSt st1 keep, .c p0 (preOf es), r1) else none
      | _ => none
    | _ => none
  | .loop c, st, r => match prep st r with
    | some (st1, p0, .l gin e gout :: r1) => match cutE (stGet st1) gin with
      | some p => some (e, st0 gout, .c p0 (.c p (.a (Loops V c gin e gout))), r1)
      | none => none
    | _ => none
  | _, _, _ => none

theorem prep_ok {cx : Cx} : ∀ {r r' : List It} {st st' : St} {p : F}, prep st r = some (st', p, r') → p.h → ∀ {a : Act} {w : World}, Sim cx (stGet st) a w → Sim cx (stGet st') a w
  | [], r', st, st', p, h, _, a, w, hs => by simp only [prep, Option.some.injEq, Prod.mk.injEq] at h; obtain ⟨rfl, _⟩ := h; exact hs
  | .r .. :: _, r', st, st', p, h, _, a, w, hs => by simp only [prep, Option.some.injEq, Prod.mk.injEq] at h; obtain ⟨rfl, _⟩ := h; exact hs
  | .t _ :: _, r', st, st', p, h, _, a, w, hs => by simp only [prep, Option.some.injEq, Prod.mk.injEq] at h; obtain ⟨rfl, _⟩ := h; exact hs
  | .l .. :: _, r', st, st', p, h, _, a, w, hs => by simp only [prep, Option.some.injEq, Prod.mk.injEq] at h; obtain ⟨rfl, _⟩ := h; exact hs
  | .f s :: r, r', st, st', p, h, hp, a, w, hs => by
    simp only [prep] at h
    split at h
    · rename_i m hm
      exact prep_ok h hp (by rw [stGet_mods]; exact hs.freeze hm)
    · cases h
  | .u l :: r, r', st, st', p, h, hp, a, w, hs => by
    simp only [prep] at h
    split at h
    · rename_i q hq
      split at h
      · rename_i st1 q1 r1 h1
        simp only [Option.some.injEq, Prod.mk.injEq] at h
        obtain ⟨rfl, rfl, rfl⟩ := h
        exact prep_ok h1 hp.2 (hs.cut hq hp.1)
      · cases h
    · cases h

theorem exec_ok {V : Env} {cx : Cx} (hV : EnvOk cx V) : ∀ {c : Code} {st st' : St} {r r' : List It} {e : Fin} {p : F}, exec V c st r = some (e, st', p, r') → p.h → Runs cx c (stGet st) e (stGet st') := by
  intro c
  induction c with
  | skip =>
    intro st st' r r' e p h hp Q a w hs hq
    simp only [exec, Option.some.injEq, Prod.mk.injEq] at h
    obtain ⟨rfl, rfl, _⟩ := h
    exact wp_skip (hq a w hs)
  | exit id =>
    intro st st' r r' e p h hp Q a w hs hq
    simp only [exec, Option.some.injEq, Prod.mk.injEq] at h
    obtain ⟨rfl, rfl, _⟩ := h
    exact wp_exit (hq a w hs)
  | ret =>
    intro st st' r r' e p h hp Q a w hs hq
    simp only [exec, Option.some.injEq, Prod.mk.injEq] at h
    obtain ⟨rfl, rfl, _⟩ := h
    exact wp_ret (hq a w hs)
  | seq x y ix iy =>
    intro st st' r r' e p h hp Q a w hs hq
    simp only [exec] at h
    split at h
    · rename_i st1 p1 r1 h1
      split at h
      · rename_i e2 st2 p2 r2 h2
        simp only [Option.some.injEq, Prod.mk.injEq] at h
        obtain ⟨rfl, rfl, rfl, rfl⟩ := h
        exact wp_seq (ix h1 hp.1 _ a w hs fun a' w' hs' => iy h2 hp.2 Q a' w' hs' hq)
      · cases h
    · rename_i hne
      refine wp_seq (ix h hp _ a w hs fun a' w' hs' => ?_)
      have := hq a' w' hs'
      cases e with
      | normal => exact absurd h (hne _ _ _)
      | exit id => exact this
      | ret => exact this
  | cond c x y ix iy =>
    intro st st' r r' e p h hp Q a w hs hq
    simp only [exec] at h
    split at h
    · rename_i t b r1 hc
      split at h
      · rename_i e2 st2 p2 r2 h2
        simp only [Option.some.injEq, Prod.mk.injEq] at h
        obtain ⟨rfl, rfl, rfl, rfl⟩ := h
        have hv : a.eval c = .bool t := by
          obtain ⟨hh, bs, M⟩ := hs
          unfold condV at hc
          split at hc
          · rename_i hx
            injection hc with hc; subst hc
            exact (scal_val M hx).1
          · cases hc
        have htb : t = b := hp.1
        subst htb
        refine wp_cond hv ?_
        cases t with
        | true => exact ix h2 hp.2 Q a w hs hq
        | false => exact iy h2 hp.2 Q a w hs hq
      · cases h
    · cases h
  | scope x ix =>
    intro st st' r r' e p h hp Q a w hs hq
    simp only [exec] at h
    refine wp_scope_straight (ix h hp _ a w hs fun a' w' hs' => ?_)
    have := hq a' w' hs'
    cases e <;> exact this
  | label l =>
    intro st st' r r' e p h hp Q a w hs hq
    simp only [exec, Option.some.injEq, Prod.mk.injEq] at h
    obtain ⟨rfl, rfl, _⟩ := h
    exact wp_label (hq a w hs)
  | block id x ix =>
    intro st st' r r' e p h hp Q a w hs hq
    simp only [exec] at h
    refine wp_block ?_
    split at h
    · rename_i j st1 p1 r1 h1
      simp only [Option.some.injEq, Prod.mk.injEq] at h
      obtain ⟨rfl, rfl, rfl, rfl⟩ := h
      refine ix h1 hp _ a w hs fun a' w' hs' => ?_
      have := hq a' w' hs'
      rw [beq_eq] at this
      by_cases hj : j = id
      · rw [decide_eq_true hj] at this
        simp only [Fin.x, Exit.inBlock, if_pos hj]; exact this
      · rw [decide_eq_false hj] at this
        simp only [Fin.x, Exit.inBlock, if_neg hj]; exact this
    · rename_i hne
      refine ix h hp _ a w hs fun a' w' hs' => ?_
      have := hq a' w' hs'
      cases e with
      | normal => exact this
      | exit id => exact absurd h (hne _ _ _ _)
      | ret => exact this
  | region id ops draw =>
    intro st st' r r' e p h hp Q a w hs hq
    simp only [exec] at h
    split at h
    · rename_i st0 p0 orc keep gk r1 hpr
      split at h
      · rename_i es st1 hpass
        cases hk : (!draw || chkS (stGet st0) ops.toList es gk) with
        | false => rw [hk] at h; simp at h
        | true =>
          rw [hk] at h
          simp only [cond_true, Option.some.injEq, Prod.mk.injEq] at h
          obtain ⟨rfl, rfl, rfl, rfl⟩ := h
          refine region_run hV (gk := gk) hpass hp.2 (fun hd => ?_) (fun a' w' hs' => hq a' w' (hs'.sub (keepSt_sub st1 keep))) (prep_ok hpr hp.1 hs)
          subst hd
          simpa using hk
      · cases h
    · cases h
  | loop x _ =>
    intro st st' r r' e p h hp Q a w hs hq
    simp only [exec] at h
    split at h
    · rename_i st1 p0 gin e1 gout r1 hpr
      split at h
      · rename_i q hc
        simp only [Option.some.injEq, Prod.mk.injEq] at h
        obtain ⟨rfl, rfl, rfl, rfl⟩ := h
        exact (hp.2.2 cx hV).loop Q a w ((prep_ok hpr hp.1 hs).cut hc hp.2.1) hq
      · cases h
    · cases h
  | _ => intro st st' r r' e p h; simp [exec] at h

/-- A path from one told state to another one: how it ends, and what must hold. -/
def pathE (V : Env) (c : Code) (gin : List (Nat × S)) (its : List It) (gout : List (Nat × S)) : Option (Fin × List Prop) :=
  match exec V c (st0 gin) its with
  | some (e, st, p, r) => match prep st r with
    | some (st1, p1, []) => match cutE (stGet st1) gout with
      | some q => some (e, (F.c p (.c p1 q)).row [])
      | none => none
    | _ => none
  | none => none
theorem pathE_goes {V : Env} {c : Code} {gin gout : List (Nat × S)} {its : List It} {e : Fin} {ps : List Prop} (h : pathE V c gin its gout = some (e, ps)) (hp : holdAll ps) : Goes V c gin e gout := by
  intro cx hV Q a w hs hq
  unfold pathE at h
  split at h
  · rename_i e1 st p r h1
    split at h
    · rename_i st1 p1 h2
      split at h
      · rename_i q h3
        simp only [Option.some.injEq, Prod.mk.injEq] at h
        obtain ⟨rfl, rfl⟩ := h
        obtain ⟨⟨f1, f2, f3⟩, _⟩ := F.of_row _ hp
        exact exec_ok hV h1 f1 Q a w hs fun a' w' hs' => hq a' w' ((prep_ok h2 f2 hs').cut h3 f3)
      · cases h
    · cases h
  · cases h
end Go.X
