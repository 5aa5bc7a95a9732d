/- Part 8 of the proof of BackSums: Telling the same in other words: a state is cut to slots that are wanted, each told by data that are equal. A state is cut to what is wanted; a mutable slice is frozen; slots are dropped. Freezing: what was mutable is plain from now on. Dropping: slots that are not wanted. Calls: what a function promises (Den), and what a call of it does. What a call does. No conditions but those that each theorem names. -/
import Derived.Test.YthmecihkgdaffaaGreatDoorP07
namespace Go.X
open Go

/-- two tellings of a slice's cells are alike -/
def FEq (n sz : Nat) (f f' : Nat → Nat → D) : Prop := ∀ j i, j < n → i < sz → (f j i).eqv (f' j i)
theorem FEq.refl (n sz : Nat) (f : Nat → Nat → D) : FEq n sz f f := fun _ _ _ _ => D.eqv.refl _

/-- what must hold, in a form that can be laid in a row -/
inductive F where
  | t
  | a (p : Prop)
  | c (x y : F)
def F.h : F → Prop
  | .t => True
  | .a p => p
  | .c x y => x.h ∧ y.h
def F.row : F → List Prop → List Prop
  | .t, r => r
  | .a p, r => p :: r
  | .c x y, r => x.row (y.row r)
def holdAll : List Prop → Prop
  | [] => True
  | p :: r => p ∧ holdAll r
theorem F.of_row (x : F) : ∀ {r : List Prop}, holdAll (x.row r) → x.h ∧ holdAll r := by
  induction x with
  | t => exact fun h => ⟨trivial, h⟩
  | a p => exact fun h => h
  | c x y ix iy =>
    intro r h
    obtain ⟨h1, h2⟩ := ix h
    obtain ⟨h3, h4⟩ := iy h2
    exact ⟨⟨h1, h3⟩, h4⟩

def convD : D → D → Option F
  | .v (.int k a), .v (.int k' b) => bif k == k' then some (.a (a = b)) else none
  | .v (.bool a), .v (.bool b) => some (.a (a = b))
  | .v x, .v y => some (.a (x = y))
  | .ga l o, .ga m o' => bif Nat.beq o o' then some (.a (l = m)) else none
  | .sf sz n f, .sf sz' m f' => bif Nat.beq sz sz' then some (.a (n = m ∧ FEq n sz f f')) else bif Nat.beq n 0 then some (.a (m = 0)) else some (.a (n = 0 ∧ m = 0))
  | _, _ => none
def convC : C → C → Option F
  | .d x, .d y => convD x y
  | .own sz n f, .own sz' m f' => bif Nat.beq sz sz' then some (.a (n = m ∧ FEq n sz f f')) else none
  | .app sz n f, .app sz' m f' => bif Nat.beq sz 0 then some (.a (m = 0)) else bif Nat.beq sz sz' then some (.a (n = m ∧ FEq n sz f f')) else none
  | .app sz n f, .d y => convD (.sf sz n f) y
  | _, _ => none
def convCs : List C → List C → Option F
  | [], [] => some .t
  | c :: cs, d :: ds => match convC c d, convCs cs ds with
    | some p, some q => some (.c p q)
    | _, _ => none
  | _, _ => none
def convTup : List (Bool × List C) → List (Bool × List C) → Option F
  | [], [] => some .t
  | (a, c) :: cs, (b, d) :: ds => bif a == b then match convCs c d, convTup cs ds with
      | some p, some q => some (.c p q)
      | _, _ => none
    else none
  | _, _ => none
def convT : S → S → Option F
  | _, .no => some .t
  | .one ag cs, .one ag' ds => bif ag == ag' then convCs cs ds else none
  | .tup xs, .tup ys => convTup xs ys
  | .box t cs, .box t' ds => bif Nat.beq t t' then convCs cs ds else none
  | .itr s p, .itr s' p' => some (.a (s = s' ∧ p = p'))
  | .bld t e l, .bld t' e' l' => bif Nat.beq t t' && Nat.beq e e' then some (.a (l = l')) else none
  | .box t [.d (.v (.pointer none)), .app 0 _ _], .bld t' _ l => bif Nat.beq t t' then some (.a (l = [])) else none
  | .imm sz off e, .imm sz' off' e' => bif Nat.beq sz sz' && Nat.beq off off' then some (.a (∀ i, i < sz → (e i).eqv (e' i))) else none
  | _, _ => none

theorem convD_ok {x y : D} {p : F} (h : convD x y = some p) (hp : p.h) : x.eqv y := by
  unfold convD at h
  simp only [cond_eq_ite] at h
  repeat' split at h
  all_goals first
    | (cases h; done)
    | skip
  · rename_i hk
    injection h with h; subst h; subst hp; have := eq_of_beq hk; subst this; rfl
  · injection h with h; subst h; subst hp; rfl
  · injection h with h; subst h; subst hp; rfl
  · rename_i hk
    injection h with h; subst h; subst hp
    have := Nat.eq_of_beq_eq_true hk; subst this; exact ⟨rfl, rfl⟩
  · rename_i hk
    injection h with h; subst h
    have := Nat.eq_of_beq_eq_true hk; subst this
    exact ⟨hp.1, .inr ⟨rfl, hp.2⟩⟩
  · rename_i hk
    injection h with h; subst h
    have := Nat.eq_of_beq_eq_true hk; subst this; subst hp
    exact ⟨rfl, .inl rfl⟩
  · injection h with h; subst h
    obtain ⟨rfl, rfl⟩ := hp
    exact ⟨rfl, .inl rfl⟩

theorem convC_ok {h : Hp} {w : World} {c d : C} {v : Value} {b : List Nat} {p : F} (ho : OwnC h w c v b) (hc : convC c d = some p) (hp : p.h) : ∃ b', OwnC h w d v b' ∧ List.Sublist b' b := by
  cases c with
  | d x =>
    cases d with
    | d y =>
      obtain ⟨hr, rfl⟩ := ho
      exact ⟨[], ⟨hr.eqv (convD_ok hc hp), rfl⟩, List.Sublist.refl _⟩
    | own sz n f => simp [convC] at hc
    | app sz n f => simp [convC] at hc
  | own sz n f =>
    cases d with
    | d y => simp [convC] at hc
    | app sz n f => simp [convC] at hc
    | own sz' m f' =>
      simp only [convC, cond_eq_ite] at hc
      split at hc
      · rename_i hk
        injection hc with hc; subst hc
        have := Nat.eq_of_beq_eq_true hk; subst this
        obtain ⟨rfl, hf⟩ := hp
        obtain ⟨b, p, cap, cells, e, h1, h2, h3, h4, h5, h6, h7⟩ := ho
        refine ⟨_, ⟨b, p, cap, cells, e, h1, h2, h3, h4, fun j i hj hi => ?_, h6, h7⟩, List.Sublist.refl _⟩
        obtain ⟨u, hu, hr⟩ := h5 j i hj hi
        exact ⟨u, hu, hr.eqv (hf j i hj hi)⟩
      · cases hc
  | app sz n f =>
    cases d with
    | own sz' m f' => simp [convC] at hc
    | d y =>
      refine ⟨[], ?_, List.nil_sublist _⟩
      have := ho.view rfl
      exact ⟨this.1.eqv (convD_ok hc hp), rfl⟩
    | app sz' m f' =>
      simp only [convC, cond_eq_ite] at hc
      split at hc
      · rename_i hk
        injection hc with hc; subst hc
        have := Nat.eq_of_beq_eq_true hk; subst this; subst hp
        rcases ho with ⟨h1, h2, h3⟩ | ⟨b, cap, cells, e, _, _, _, _, _, _, _, _, h⟩
        · exact ⟨b, .inl ⟨h1, rfl, h3⟩, List.Sublist.refl _⟩
        · omega
      · split at hc
        · rename_i hk
          injection hc with hc; subst hc
          have := Nat.eq_of_beq_eq_true hk; subst this
          obtain ⟨rfl, hf⟩ := hp
          refine ⟨b, ?_, List.Sublist.refl _⟩
          rcases ho with h0 | ⟨b, cap, cells, e, h1, h2, h3, h4, h5, h6⟩
          · exact .inl h0
          · refine .inr ⟨b, cap, cells, e, h1, h2, h3, h4, fun j i hj hi => ?_, h6⟩
            obtain ⟨u, hu, hr⟩ := h5 j i hj hi
            exact ⟨u, hu, hr.eqv (hf j i hj hi)⟩
        · cases hc
theorem convCs_ok {h : Hp} {w : World} : ∀ {cs ds : List C} {vs : List Value} {b : List Nat} {p : F}, OwnCs h w cs vs b → convCs cs ds = some p → p.h → ∃ b', OwnCs h w ds vs b' ∧ List.Sublist b' b
  | [], [], _, b, _, ho, _, _ => ⟨b, ho, List.Sublist.refl _⟩
  | [], _ :: _, _, _, _, _, hc, _ => by simp [convCs] at hc
  | _ :: _, [], _, _, _, _, hc, _ => by simp [convCs] at hc
  | c :: cs, d :: ds, _, _, p, ⟨v, vs', b1, b2, hv, hb, h1, h2⟩, hc, hp => by
    subst hb
    simp only [convCs] at hc
    split at hc
    · rename_i q r hq hr
      injection hc with hc; subst hc
      obtain ⟨b1', o1, s1⟩ := convC_ok h1 hq hp.1
      obtain ⟨b2', o2, s2⟩ := convCs_ok h2 hr hp.2
      exact ⟨b1' ++ b2', ⟨v, vs', b1', b2', hv, rfl, o1, o2⟩, s1.append s2⟩
    · cases hc
theorem convCs_len : ∀ {cs ds : List C} {p : F}, convCs cs ds = some p → ds.length = cs.length
  | [], [], _, _ => rfl
  | [], _ :: _, _, hc => by simp [convCs] at hc
  | _ :: _, [], _, hc => by simp [convCs] at hc
  | c :: cs, d :: ds, p, hc => by
    simp only [convCs] at hc
    split at hc
    · rename_i q r hq hr
      simp [convCs_len hr]
    · cases hc
theorem convTup_ok {h : Hp} {w : World} : ∀ {cs ds : List (Bool × List C)} {vs : List Value} {b : List Nat} {p : F}, TupTells h w cs vs b → convTup cs ds = some p → p.h → ∃ b', TupTells h w ds vs b' ∧ List.Sublist b' b
  | [], [], _, b, _, ho, _, _ => ⟨b, ho, List.Sublist.refl _⟩
  | [], _ :: _, _, _, _, _, hc, _ => by simp [convTup] at hc
  | _ :: _, [], _, _, _, _, hc, _ => by simp [convTup] at hc
  | (a, c) :: cs, (a', d) :: ds, _, _, p, ⟨v, vs', b1, b2, hv, hb, h1, h2⟩, hc, hp => by
    subst hb
    simp only [convTup, cond_eq_ite] at hc
    split at hc
    · rename_i hk
      have := eq_of_beq hk; subst this
      split at hc
      · rename_i q r hq hr
        injection hc with hc; subst hc
        obtain ⟨b2', o2, s2⟩ := convTup_ok h2 hr hp.2
        rcases h1 with ⟨rfl, rfl⟩ | ⟨us, o1, e1, e2⟩
        · cases d with
          | nil => exact ⟨[] ++ b2', ⟨v, vs', [], b2', hv, rfl, .inl ⟨rfl, rfl⟩, o2⟩, (List.Sublist.refl []).append s2⟩
          | cons x xs => simp [convCs] at hq
        · obtain ⟨b1', o1', s1⟩ := convCs_ok o1 hq hp.1
          exact ⟨b1' ++ b2', ⟨v, vs', b1', b2', hv, rfl, .inr ⟨us, o1', e1, fun e => by rw [convCs_len hq]; exact e2 e⟩, o2⟩, s1.append s2⟩
      · cases hc
    · cases hc
theorem convT_ok {h : Hp} {w : World} {x y : S} {v : Value} {b : List Nat} {p : F} (ho : Tells h w x v b) (hc : convT x y = some p) (hp : p.h) : ∃ b', Tells h w y v b' ∧ List.Sublist b' b := by
  unfold convT at hc
  simp only [cond_eq_ite] at hc
  repeat' split at hc
  all_goals first
    | (cases hc; done)
    | skip
  · exact ⟨[], rfl, List.nil_sublist _⟩
  · rename_i hk
    have := eq_of_beq hk; subst this
    obtain ⟨us, o1, e1, e2⟩ := ho
    obtain ⟨b', o', s⟩ := convCs_ok o1 hc hp
    exact ⟨b', ⟨us, o', e1, fun e => by rw [convCs_len hc]; exact e2 e⟩, s⟩
  · obtain ⟨vs, hv, ht⟩ := ho
    obtain ⟨b', o', s⟩ := convTup_ok ht hc hp
    exact ⟨b', ⟨vs, hv, o'⟩, s⟩
  · rename_i hk
    have := Nat.eq_of_beq_eq_true hk; subst this
    obtain ⟨q, vs, bs', hv, hh, o1, rfl, hf⟩ := ho
    obtain ⟨b', o', s⟩ := convCs_ok o1 hc hp
    exact ⟨q :: b', ⟨q, vs, b', hv, hh, o', rfl, hf⟩, s.cons_cons _⟩
  · injection hc with hc; subst hc
    obtain ⟨rfl, rfl⟩ := hp
    exact ⟨b, ho, List.Sublist.refl _⟩
  · rename_i hk
    simp only [Bool.and_eq_true] at hk
    have := Nat.eq_of_beq_eq_true hk.1; subst this
    have := Nat.eq_of_beq_eq_true hk.2; subst this
    injection hc with hc; subst hc; subst hp
    exact ⟨b, ho, List.Sublist.refl _⟩
  · rename_i hk
    have := Nat.eq_of_beq_eq_true hk; subst this
    injection hc with hc; subst hc; subst hp
    obtain ⟨q, vs, bs', hv, hh, ⟨p1, vs1, b1, b2, rfl, rfl, ⟨⟨rfl, _⟩, rfl⟩, u, vs2, b3, b4, rfl, rfl, o1, rfl, rfl⟩, rfl, hf⟩ := ho
    rcases o1 with ⟨rfl, _, rfl⟩ | ⟨_, _, _, _, _, _, _, _, _, _, _, _, h0⟩
    · exact ⟨[q], ⟨q, .pointer none, .slice none 0 0, [], hv, hh, .inl rfl, ⟨⟨rfl, .inl ⟨rfl, rfl⟩⟩, rfl⟩, rfl, fun x hx => by simp only [List.mem_singleton] at hx; subst hx; exact hf⟩, List.Sublist.refl _⟩
    · exact absurd h0 (Nat.lt_irrefl _)
  · rename_i hk
    simp only [Bool.and_eq_true] at hk
    have := Nat.eq_of_beq_eq_true hk.1; subst this
    have := Nat.eq_of_beq_eq_true hk.2; subst this
    injection hc with hc; subst hc
    obtain ⟨rfl, q, o, hv, he⟩ := ho
    refine ⟨[], ⟨rfl, q, o, hv, fun i hi => ?_⟩, List.Sublist.refl _⟩
    obtain ⟨u, hu, hr⟩ := he i hi
    exact ⟨u, hu, hr.eqv (hp i hi)⟩

/-! ### cutting a state -/
def vers (g : Lk) (s k : Nat) : Bool :=
  match g s with
  | some (k', _) => Nat.beq k' k
  | none => false
def sameC : Option Nat → Option Nat → Bool
  | none, none => true
  | some i, some j => Nat.beq i j
  | _, _ => false
def convR (g t : Lk) : S → S → Option F
  | .ref r, .ref r' => bif Nat.beq r.s r'.s && sameC r.c r'.c && vers g r.s r.k && vers t r.s 0 && Nat.beq r'.k 0 then some .t else none
  | .adr s k o, .adr s' k' o' => bif Nat.beq s s' && Nat.beq o o' && vers g s k && vers t s 0 && Nat.beq k' 0 then some .t else none
  | .elt r j o, .elt r' j' o' => bif Nat.beq r.s r'.s && sameC r.c r'.c && vers g r.s r.k && vers t r.s 0 && Nat.beq r'.k 0 && Nat.beq o o' then some (.a (j = j')) else none
  | x, y => convT x y
def cutL (g t : Lk) : List (Nat × S) → Option F
  | [] => some .t
  | (s, y) :: r => match g s with
    | some (_, x) => match convR g t x y, cutL g t r with
      | some p, some q => some (.c p q)
      | _, _ => none
    | none => none
def st0 (l : List (Nat × S)) : St := l.map fun p => (p.1, 0, p.2)
def cutE (g : Lk) (l : List (Nat × S)) : Option F := cutL g (stGet (st0 l)) l

theorem stGet_st0 : ∀ {l : List (Nat × S)} {s k : Nat} {x : S}, stGet (st0 l) s = some (k, x) → k = 0 ∧ (s, x) ∈ l
  | [], _, _, _, h => by simp [st0, stGet] at h
  | (t, y) :: r, s, k, x, h => by
    simp only [st0, List.map_cons, stGet, beq_eq] at h
    by_cases hts : t = s
    · subst hts
      simp only [decide_true, cond_true, Option.some.injEq, Prod.mk.injEq] at h
      exact ⟨h.1.symm, by rw [h.2]; simp⟩
    · simp only [hts, decide_false, cond_false] at h
      obtain ⟨h1, h2⟩ := stGet_st0 (l := r) h
      exact ⟨h1, by simp [h2]⟩
theorem cutL_mem {g t : Lk} : ∀ {l : List (Nat × S)} {p : F}, cutL g t l = some p → p.h → ∀ s y, (s, y) ∈ l → ∃ k x q, g s = some (k, x) ∧ convR g t x y = some q ∧ q.h
  | [], _, _, _, _, _, h => by cases h
  | (s, y) :: r, p, hc, hp, s', y', hm => by
    simp only [cutL] at hc
    split at hc
    · rename_i k x hg
      split at hc
      · rename_i q1 q2 h1 h2
        injection hc with hc; subst hc
        rcases List.mem_cons.1 hm with h | h
        · injection h with e1 e2; subst e1; subst e2
          exact ⟨k, x, q1, hg, h1, hp.1⟩
        · exact cutL_mem h2 hp.2 s' y' h
      · cases hc
    · cases hc

/-- what a slot's telling says at a root -/
def cellAt : S → Option Nat → Option C
  | .one false [c], none => some c
  | .box _ cs, some i => cs[i]?
  | _, _ => none
theorem atRoot_cell {g : Lk} {r : Root} {k : Nat} {x : S} (h : g r.s = some (k, x)) : atRoot g r = bif Nat.beq k r.k then cellAt x r.c else none := by
  unfold atRoot
  rw [h]
  simp only
  cases Nat.beq k r.k with
  | false => rfl
  | true =>
    simp only [cond_true]
    have two : ∀ (ag : Bool) (cs : List C), (match r.c, S.one ag cs with | none, .one false [c] => some c | some i, .box _ cs => cs[i]? | _, _ => none) = cellAt (.one ag cs) r.c := by
      intro ag cs
      unfold cellAt
      cases r.c <;> cases ag <;> (cases cs with | nil => rfl | cons c cs => cases cs <;> rfl)
    cases x with
    | one ag cs => exact two ag cs
    | box t cs => cases r.c <;> rfl
    | tup a => cases r.c <;> rfl
    | ref a => cases r.c <;> rfl
    | adr a b c => cases r.c <;> rfl
    | elt a b c => cases r.c <;> rfl
    | imm a b c => cases r.c <;> rfl
    | ifc a b c => cases r.c <;> rfl
    | itr a b => cases r.c <;> rfl
    | bld a b c => cases r.c <;> rfl
    | no => cases r.c <;> rfl
theorem convCs_own : ∀ {cs ds : List C} {p : F}, convCs cs ds = some p → p.h → ∀ (i : Nat) (sz n : Nat) (f : Nat → Nat → D), ds[i]? = some (.own sz n f) → ∃ f', cs[i]? = some (.own sz n f')
  | [], [], _, _, _, i, _, _, _, h => by simp at h
  | [], _ :: _, _, hc, _, _, _, _, _, _ => by simp [convCs] at hc
  | _ :: _, [], _, hc, _, _, _, _, _, _ => by simp [convCs] at hc
  | c :: cs, d :: ds, p, hc, hp, i, sz, n, f, h => by
    simp only [convCs] at hc
    split at hc
    · rename_i q r hq hr
      injection hc with hc; subst hc
      cases i with
      | zero =>
        simp only [List.getElem?_cons_zero, Option.some.injEq] at h; subst h
        cases c with
        | d x => simp [convC] at hq
        | app a b c => simp [convC] at hq
        | own sz' m f' =>
          simp only [convC, cond_eq_ite] at hq
          split at hq
          · rename_i hk
            injection hq with hq; subst hq
            have := Nat.eq_of_beq_eq_true hk; subst this
            obtain ⟨⟨rfl, _⟩, _⟩ := hp
            exact ⟨f', rfl⟩
          · cases hq
      | succ i => simpa using convCs_own hr hp.2 i sz n f (by simpa using h)
    · cases hc
theorem convT_own {x y : S} {p : F} (hc : convT x y = some p) (hp : p.h) {c : Option Nat} {sz n : Nat} {f : Nat → Nat → D} (h : cellAt y c = some (.own sz n f)) : ∃ f', cellAt x c = some (.own sz n f') := by
  cases y with
  | one ag ds =>
    cases x with
    | one ag' cs =>
      simp only [convT, cond_eq_ite] at hc
      split at hc
      · rename_i hk
        have := eq_of_beq hk; subst this
        cases c with
        | some i => simp [cellAt] at h
        | none =>
          unfold cellAt at h
          split at h
          · injection h with h; subst h
            rename_i heq
            injection heq with e1 e2; subst e1; subst e2
            have hl := convCs_len hc
            match cs, hl with
            | [c], _ =>
              obtain ⟨f', hf⟩ := convCs_own hc hp 0 sz n f rfl
              simp only [List.getElem?_cons_zero, Option.some.injEq] at hf
              subst hf
              exact ⟨f', rfl⟩
          · rename_i heq _; cases heq
          · cases h
      · cases hc
    | _ => simp [convT] at hc
  | box t ds =>
    cases x with
    | box t' cs =>
      simp only [convT, cond_eq_ite] at hc
      split at hc
      · cases c with
        | none => simp [cellAt] at h
        | some i =>
          simp only [cellAt] at h ⊢
          exact convCs_own hc hp i sz n f h
      · cases hc
    | _ => simp [convT] at hc
  | tup xs => cases c <;> simp [cellAt] at h
  | ref r => cases c <;> simp [cellAt] at h
  | adr a b d => cases c <;> simp [cellAt] at h
  | elt a b d => cases c <;> simp [cellAt] at h
  | imm a b d => cases c <;> simp [cellAt] at h
  | ifc a b d => cases c <;> simp [cellAt] at h
  | itr a b => cases c <;> simp [cellAt] at h
  | bld a b d => cases c <;> simp [cellAt] at h
  | no => cases c <;> simp [cellAt] at h

theorem sameC_eq {a b : Option Nat} (h : sameC a b = true) : a = b := by
  cases a <;> cases b <;> simp [sameC] at h
  · rfl
  · exact congrArg some h
theorem vers_eq {g : Lk} {s k k' : Nat} {x : S} (h : vers g s k = true) (hg : g s = some (k', x)) : k' = k := by
  unfold vers at h; rw [hg] at h; exact Nat.eq_of_beq_eq_true h
theorem vers_some {g : Lk} {s k : Nat} (h : vers g s k = true) : ∃ x, g s = some (k, x) := by
  unfold vers at h
  split at h
  · rename_i k' x hx; rw [Nat.eq_of_beq_eq_true h] at hx; exact ⟨x, hx⟩
  · cases h
theorem convR_T {g t : Lk} {x y : S} {p : F} (h : convR g t x y = some p) (hx : match x with | .ref _ | .adr .. | .elt .. => False | _ => True) : convT x y = some p := by
  cases x <;> first | exact h | exact hx.elim
theorem convR_own {g t : Lk} {x y : S} {p : F} (hc : convR g t x y = some p) (hp : p.h) {c : Option Nat} {sz n : Nat} {f : Nat → Nat → D} (h : cellAt y c = some (.own sz n f)) : ∃ f', cellAt x c = some (.own sz n f') := by
  cases x with
  | ref r => cases y <;> (first | (cases c <;> simp [cellAt] at h; done) | (simp [convR, convT] at hc; done))
  | adr a b d => cases y <;> (first | (cases c <;> simp [cellAt] at h; done) | (simp [convR, convT] at hc; done))
  | elt a b d => cases y <;> (first | (cases c <;> simp [cellAt] at h; done) | (simp [convR, convT] at hc; done))
  | _ => exact convT_own (convR_T hc trivial) hp h
end Go.X
namespace Go.X
open Go

theorem convR_ok {h : Hp} {g : Lk} {w : World} {t : Lk} {x y : S} {p : F} {v : Value} {b : List Nat}
    (ht : Tells h w x v b) (hc : convR g t x y = some p) (hp : p.h) : ∃ b', Tells h w y v b' ∧ List.Sublist b' b := by
  cases x with
  | ref r =>
    cases y <;> (try (simp [convR, convT] at hc; done))
    · exact ⟨[], rfl, List.nil_sublist _⟩
    · exact ⟨[], rfl, List.nil_sublist _⟩
  | adr s k o =>
    cases y <;> (try (simp [convR, convT] at hc; done))
    · exact ⟨[], rfl, List.nil_sublist _⟩
    · exact ⟨[], rfl, List.nil_sublist _⟩
  | elt r j o =>
    cases y <;> (try (simp [convR, convT] at hc; done))
    · exact ⟨[], rfl, List.nil_sublist _⟩
    · exact ⟨[], rfl, List.nil_sublist _⟩
  | one ag cs => exact convT_ok ht (convR_T hc trivial) hp
  | tup xs => exact convT_ok ht (convR_T hc trivial) hp
  | box t cs => exact convT_ok ht (convR_T hc trivial) hp
  | imm a b c => exact convT_ok ht (convR_T hc trivial) hp
  | ifc a b c => exact convT_ok ht (convR_T hc trivial) hp
  | itr a b => exact convT_ok ht (convR_T hc trivial) hp
  | bld a b c => exact convT_ok ht (convR_T hc trivial) hp
  | no => exact convT_ok ht (convR_T hc trivial) hp

theorem Sim.cut {cx : Cx} {g : Lk} {a : Act} {w : World} {l : List (Nat × S)} {p : F} (hs : Sim cx g a w) (hc : cutE g l = some p) (hp : p.h) : Sim cx (stGet (st0 l)) a w := by
  obtain ⟨h, bs, M⟩ := hs
  have mem := cutL_mem hc hp
  have key : ∀ s, ∃ b', List.Sublist b' (bs s) ∧ ∀ k y, stGet (st0 l) s = some (k, y) → ∃ v, a.tmps[s]? = some v ∧ Tells h w y v b' := by
    intro s
    cases hg : stGet (st0 l) s with
    | none => exact ⟨[], List.nil_sublist _, fun _ _ e => by cases e⟩
    | some q =>
      obtain ⟨k0, y0⟩ := q
      obtain ⟨_, hm⟩ := stGet_st0 hg
      obtain ⟨k, x, q, e1, e2, e3⟩ := mem s y0 hm
      obtain ⟨v, hv, ht, _⟩ := M.slot s k x e1
      obtain ⟨b', o', sub⟩ := convR_ok ht e2 e3
      exact ⟨b', sub, fun k y e => by injection e with e; injection e with e4 e5; subst e5; exact ⟨v, hv, o'⟩⟩
  obtain ⟨bs', hbs⟩ := Classical.axiomOfChoice key
  have inb : ∀ s b, b ∈ bs' s → b ∈ bs s := fun s b hb => (hbs s).1.subset hb
  refine ⟨h, bs', M.le, M.newc, M.newg, M.holds, M.fr, M.defers, M.size, ?_, fun s => (M.nodup s).sublist (hbs s).1, fun s t hst b h1 h2 => M.disj s t hst b (inb _ _ h1) (inb _ _ h2), fun s b hb => M.mine s b (inb _ _ hb), fun s b hb => M.lt s b (inb _ _ hb), M.pins⟩
  intro s k y hy
  obtain ⟨v, hv, ht⟩ := (hbs s).2 k y hy
  refine ⟨v, hv, ht, ?_⟩
  obtain ⟨rfl, hm⟩ := stGet_st0 hy
  obtain ⟨k1, x, q, e1, e2, e3⟩ := mem s y hm
  obtain ⟨v', hv', _, hr⟩ := M.slot s k1 x e1
  have : v' = v := by rw [hv] at hv'; exact (Option.some.inj hv').symm
  subst this
  -- roots of the target stand in it, and what they tell there is told in the source
  have root : ∀ {q k0 : Nat}, vers (stGet (st0 l)) q k0 = true → ∃ z, stGet (st0 l) q = some (0, z) ∧ ∃ k x p, g q = some (k, x) ∧ convR g (stGet (st0 l)) x z = some p ∧ p.h := by
    intro q k0 hq
    obtain ⟨z, hz⟩ := vers_some hq
    obtain ⟨rfl, hm⟩ := stGet_st0 hz
    exact ⟨z, hz, mem q z hm⟩
  cases y with
  | one ag cs => trivial
  | tup xs => trivial
  | box t cs => trivial
  | imm a b c => trivial
  | ifc a b c => trivial
  | itr a b => trivial
  | bld a b c => trivial
  | no => trivial
  | ref r' =>
    cases x with
    | ref r =>
      simp only [convR, cond_eq_ite] at e2
      split at e2
      · rename_i hk
        simp only [Bool.and_eq_true] at hk
        obtain ⟨⟨⟨⟨k1', k2⟩, k3⟩, k4⟩, k5⟩ := hk
        obtain ⟨rs, rk, rc⟩ := r
        obtain ⟨rs', rk', rc'⟩ := r'
        simp only at k1' k2 k3 k4 k5
        have := Nat.eq_of_beq_eq_true k1'; subst this
        have := Nat.eq_of_beq_eq_true k5; subst this
        have := sameC_eq k2; subst this
        obtain ⟨z, hz, kz, xz, pz, z1, z2, z3⟩ := root k4
        obtain ⟨kk, yy, f1, f2, f3⟩ := hr
        simp only at f1 f2 f3
        have hkk := vers_eq k3 f1
        refine ⟨0, z, hz, Nat.le_refl _, fun _ hcond => ?_⟩
        have := f3 hkk (by
          rcases hcond with h0 | h0
          · exact .inl h0
          · refine .inr ?_
            rw [atRoot_cell (r := ⟨rs, 0, rc⟩) hz] at h0
            simp only [beq_eq, decide_true, cond_true] at h0
            cases hcell : cellAt z rc with
            | none => rw [hcell] at h0; cases h0
            | some c =>
              rw [hcell] at h0
              cases c with
              | d x => cases h0
              | app a b c => cases h0
              | own sz n f =>
                obtain ⟨f', hf⟩ := convR_own z2 z3 hcell
                rw [z1] at f1
                injection f1 with f1; injection f1 with f1 f4; subst f4
                rw [atRoot_cell (r := ⟨rs, rk, rc⟩) z1, f1, hkk]
                simp only [beq_eq, decide_true, cond_true, hf]
                rfl)
        exact this
      · cases e2
    | _ => simp [convR, convT] at e2
  | adr s' k' o' =>
    cases x with
    | adr s k o =>
      simp only [convR, cond_eq_ite] at e2
      split at e2
      · rename_i hk
        simp only [Bool.and_eq_true] at hk
        obtain ⟨⟨⟨⟨k1', k2⟩, k3⟩, k4⟩, k5⟩ := hk
        have := Nat.eq_of_beq_eq_true k1'; subst this
        have := Nat.eq_of_beq_eq_true k2; subst this
        have := Nat.eq_of_beq_eq_true k5; subst this
        obtain ⟨z, hz, kz, xz, pz, z1, z2, z3⟩ := root k4
        obtain ⟨kk, yy, f1, f2, f3⟩ := hr
        have hkk := vers_eq k3 f1
        refine ⟨0, z, hz, Nat.le_refl _, fun _ t cs hbx => ?_⟩
        subst hbx
        rw [z1] at f1
        injection f1 with f1; injection f1 with f1 f4; subst f4
        cases xz with
        | box t' cs' => exact f3 hkk t' cs' rfl
        | _ => simp [convR, convT] at z2
      · cases e2
    | _ => simp [convR, convT] at e2
  | elt r' j' o' =>
    cases x with
    | elt r j o =>
      simp only [convR, cond_eq_ite] at e2
      split at e2
      · rename_i hk
        simp only [Bool.and_eq_true] at hk
        obtain ⟨⟨⟨⟨⟨k1', k2⟩, k3⟩, k4⟩, k5⟩, k6⟩ := hk
        injection e2 with e2; subst e2; subst e3
        obtain ⟨rs, rk, rc⟩ := r
        obtain ⟨rs', rk', rc'⟩ := r'
        simp only at k1' k2 k3 k4 k5
        have := Nat.eq_of_beq_eq_true k1'; subst this
        have := Nat.eq_of_beq_eq_true k5; subst this
        have := Nat.eq_of_beq_eq_true k6; subst this
        have := sameC_eq k2; subst this
        obtain ⟨z, hz, kz, xz, pz, z1, z2, z3⟩ := root k4
        obtain ⟨kk, yy, f1, f2, f3⟩ := hr
        simp only at f1 f2 f3
        have hkk := vers_eq k3 f1
        refine ⟨0, z, hz, Nat.le_refl _, fun _ sz n f hat => ?_⟩
        rw [atRoot_cell (r := ⟨rs, 0, rc⟩) hz] at hat
        simp only [beq_eq, decide_true, cond_true] at hat
        obtain ⟨f', hf⟩ := convR_own z2 z3 hat
        rw [z1] at f1
        injection f1 with f1; injection f1 with f1 f4; subst f4
        exact f3 hkk sz n f' (by
          rw [atRoot_cell (r := ⟨rs, rk, rc⟩) z1, f1, hkk]
          simp only [beq_eq, decide_true, cond_true, hf])
      · cases e2
    | _ => simp [convR, convT] at e2
end Go.X
namespace Go.X
open Go

def fzC : C → C
  | .own sz n f => .d (.sf sz n f)
  | .app sz n f => .d (.sf sz n f)
  | c => c

theorem freezeCs : ∀ {cs : List C} {h : Hp} {w : World} {vs : List Value} {bs : List Nat}, h.holds w → OwnCs h w cs vs bs → bs.Nodup →
    ∃ k : Hp, h.le k ∧ k.holds w ∧ k.g = h.g ∧ (∀ b, b ∉ bs → ∀ i, k.c b i = h.c b i) ∧ OwnCs k w (cs.map fzC) vs []
  | [], h, w, vs, bs, hw, ho, _ => ⟨h, Hp.le.refl h, hw, rfl, fun _ _ _ => rfl, ho.1, rfl⟩
  | c :: cs, h, w, _, _, hw, ⟨v, vs', b1, b2, hv, hb, h1, h2⟩, nd => by
    subst hb; subst hv
    have plain : ∀ d : D, fzC c = .d d → d.rep h v → ∃ k : Hp, h.le k ∧ k.holds w ∧ k.g = h.g ∧ (∀ b, b ∉ b1 ++ b2 → ∀ i, k.c b i = h.c b i) ∧ OwnCs k w ((c :: cs).map fzC) (v :: vs') [] := by
      intro d hd hr
      obtain ⟨k, k1, k2, k3, k4, k5⟩ := freezeCs (cs := cs) hw h2 (List.nodup_append.1 nd).2.1
      refine ⟨k, k1, k2, k3, fun b hb i => k4 b (fun hc => hb (by simp [hc])) i, v, vs', [], [], rfl, rfl, ?_, k5⟩
      rw [hd]
      exact ⟨hr.mono k1, rfl⟩
    cases c with
    | d x => exact plain x rfl h1.1
    | app sz n f => exact plain (.sf sz n f) rfl (h1.view rfl).1
    | own sz n f =>
      obtain ⟨b, p, cap, cells, e, rfl, hn, hh, hz, hf, rfl, hfr⟩ := h1
      have hb2 : b ∉ b2 := fun hc => by
        have := (List.nodup_append.1 nd).2.2 b (by simp) b hc
        exact this rfl
      let k1 : Hp := { h with c := fun b' i => if b' = b then (if p ≤ i ∧ i < p + n * sz then cells[i]? else none) else h.c b' i }
      have hle : h.le k1 := by
        refine ⟨fun b' i u hu => ?_, fun _ _ h => h⟩
        show (if b' = b then _ else _) = _
        by_cases hbb : b' = b
        · subst hbb; rw [hfr.c i] at hu; cases hu
        · rw [if_neg hbb]; exact hu
      have hold : k1.holds w := by
        refine ⟨fun b' i u hu => ?_, hw.g, fun b' l i hl => ?_⟩
        · have hu : (if b' = b then (if p ≤ i ∧ i < p + n * sz then cells[i]? else none) else h.c b' i) = some u := hu
          by_cases hbb : b' = b
          · subst hbb
            rw [if_pos rfl] at hu
            split at hu
            · simp [World.cell?, hh, hu]
            · cases hu
          · rw [if_neg hbb] at hu; exact hw.c b' i u hu
        · show (if b' = b then _ else _) = _
          by_cases hbb : b' = b
          · subst hbb; have : h.g b' = some l := hl; rw [hfr.g] at this; cases this
          · rw [if_neg hbb]; exact hw.ap b' l i hl
      have h2' : OwnCs k1 w cs vs' b2 := h2.keep hle ⟨fun _ _ => rfl, fun b' hb' i => by
        show (if b' = b then _ else _) = _
        rw [if_neg]; rintro rfl; exact hb2 hb', fun _ _ => rfl⟩
      obtain ⟨k, e1, e2, e3, e4, e5⟩ := freezeCs (cs := cs) hold h2' (List.nodup_append.1 nd).2.1
      refine ⟨k, hle.trans e1, e2, e3, fun b' hb' i => ?_, _, vs', [], [], rfl, rfl, ⟨⟨_, cap, rfl, hn, .inr ⟨b, p, rfl, fun j i hj hi => ?_⟩⟩, rfl⟩, e5⟩
      · rw [e4 b' (fun hc => hb' (by simp [hc])) i]
        show (if b' = b then _ else _) = _
        rw [if_neg]; rintro rfl; exact hb' (by simp)
      · obtain ⟨u, hu, hr⟩ := hf j i hj hi
        refine ⟨u, e1.c _ _ _ ?_, (hr.mono hle).mono e1⟩
        show (if b = b then _ else _) = _
        have hlt := row_lt hj hi
        rw [if_pos rfl, if_pos ⟨by omega, by omega⟩]
        exact hu

def frzE (g : Lk) (s : Nat) : Option (Nat × S) :=
  match g s with
  | some (_, .one ag cs) => some (s, .one ag (cs.map fzC))
  | some (_, .box t cs) => some (s, .box t (cs.map fzC))
  | _ => none

theorem Sim.freeze {cx : Cx} {g : Lk} {a : Act} {w : World} {s : Nat} {m : Nat × S} (hs : Sim cx g a w) (hc : frzE g s = some m) : Sim cx (lkMods g [m]) a w := by
  obtain ⟨h, bs, M⟩ := hs
  unfold frzE at hc
  split at hc
  · rename_i k0 ag cs hg
    injection hc with hc; subst hc
    obtain ⟨v, hv, ⟨vs, ho, hmk, hl⟩, _⟩ := M.slot s k0 _ hg
    obtain ⟨k, e1, e2, e3, e4, e5⟩ := freezeCs M.holds ho (M.nodup s)
    -- the slot is emptied; the cells are known for good; the slot is told again
    have M1 := M.mod hg (x := .no) (pb := []) (fun u _ => ⟨rfl, trivial⟩) List.nodup_nil (fun b hb => by cases hb) (fun t cs' h => by cases h) (fun c h => by rw [noOwn_no] at h; cases h)
    have M2 := M1.world' (k := k) (w' := w) (fun b => b ∈ bs s) (fun b hb => M.mine s b hb) e1 e2 (fun b hb hl i => e4 b (fun hc => (M.mine s b hc).elim (fun h => by omega) hl) i) (fun b _ => by rw [e3])
      ⟨rfl, rfl, rfl, Nat.le_refl _, fun _ _ _ => rfl⟩ (fun t => ⟨fun _ _ => rfl, fun b hb i => by
        by_cases hts : t = s
        · rw [if_pos hts] at hb; cases hb
        · rw [if_neg hts] at hb
          exact e4 b (fun hc => M.disj t s hts b hb hc) i, fun _ _ => by rw [e3]⟩)
    have hg1 : lkMod g s .no s = some (k0, .no) := by simp [lkMod, hg]
    have M3 := M2.mod hg1 (x := .one ag (cs.map fzC)) (pb := []) (fun u hu => by
        rw [hv] at hu; injection hu with hu; subst hu
        exact ⟨⟨vs, e5, hmk, fun e => by rw [List.length_map]; exact hl e⟩, trivial⟩) List.nodup_nil (fun b hb => by cases hb) (fun t cs' h => by cases h) (fun c h => by
        rw [atRoot_cell (r := ⟨s, k0, c⟩) (k := k0) (x := .one ag (cs.map fzC)) (by simp [lkMod, hg])] at h
        simp only [beq_eq, decide_true, cond_true] at h
        have : ∀ (c : Option Nat) (x : C), cellAt (.one ag (cs.map fzC)) c = some x → x.isOwn = false := by
          intro c x hx
          cases c with
          | some i => simp [cellAt] at hx
          | none =>
            unfold cellAt at hx
            split at hx
            · rename_i heq _
              injection heq with _ heq
              injection hx with hx; subst hx
              match cs, heq with
              | [c], heq => simp only [List.map_cons, List.map_nil, List.cons.injEq, and_true] at heq; subst heq; cases c <;> rfl
            · rename_i heq _; cases heq
            · cases hx
        cases hcell : cellAt (.one ag (cs.map fzC)) c with
        | none => rw [hcell] at h; cases h
        | some x =>
          have := this c x hcell
          rw [hcell] at h
          cases x <;> first | (cases h; done) | (simp [C.isOwn] at this))
    have he : lkMod (lkMod g s .no) s (.one ag (cs.map fzC)) = lkMods g [(s, .one ag (cs.map fzC))] := by
      funext t
      simp only [lkMods, lkMod]
      by_cases ht : t = s
      · simp [ht, hg]
      · simp [ht]
    rw [← he]
    exact ⟨_, _, M3⟩
  · rename_i k0 t cs hg
    injection hc with hc; subst hc
    obtain ⟨v, hv, ⟨b0, vs, bs', hvb, hh, ho, hbs, hf⟩, _⟩ := M.slot s k0 _ hg
    have hnd := M.nodup s
    rw [hbs] at hnd
    have hnd' := List.nodup_cons.1 hnd
    obtain ⟨k, e1, e2, e3, e4, e5⟩ := freezeCs M.holds ho hnd'.2
    have sub : ∀ b ∈ bs', b ∈ bs s := fun b hb => by rw [hbs]; simp [hb]
    have M1 := M.refine (k := k) e1 e2 (fun b hb hl i => e4 b (fun hc => (M.mine s b (sub b hc)).elim (fun h => by omega) hl) i) (fun b => by rw [e3]) hg (x := .box t (cs.map fzC)) (pb := [b0])
      (fun u hu => by
        rw [hv] at hu; injection hu with hu; subst hu
        exact ⟨⟨b0, vs, [], hvb, hh, e5, rfl, ⟨fun i => by rw [e4 b0 hnd'.1]; exact hf.c i, by rw [e3]; exact hf.g⟩⟩, trivial⟩)
      (by simp) (fun b hb => by simp only [List.mem_singleton] at hb; subst hb; rw [hbs]; simp) (fun t' cs' h => by injection h with e1 _; subst e1; exact ⟨cs, rfl⟩)
      (fun c h => by
        unfold atRoot at h
        simp only [lkMod, if_true, hg, Option.map_some, beq_eq, decide_true, cond_true] at h
        cases c with
        | none => simp [isOwnO] at h
        | some i =>
          simp only [List.getElem?_map] at h
          cases hc : cs[i]? with
          | none => rw [hc] at h; simp [isOwnO] at h
          | some c => rw [hc] at h; cases c <;> simp [isOwnO, fzC] at h)
      (fun q hq => ⟨fun _ _ => rfl, fun b hb i => e4 b (fun hc => M.disj q s hq b hb (sub b hc)) i, fun _ _ => by rw [e3]⟩)
    exact ⟨_, _, M1⟩
  · cases hc

/-! ### dropping -/
def inL (l : List Nat) (s : Nat) : Bool := l.any fun t => Nat.beq t s
def rootish (st : St) (q : Nat) : Bool :=
  match stGet st q with
  | some (_, .one ..) => true
  | some (_, .box ..) => true
  | _ => false
def keepOk (st : St) (l : List Nat) (s : Nat) : Bool :=
  match stGet st s with
  | none => false
  | some (_, .no) => false
  | some (_, .ref r) => inL l r.s && rootish st r.s
  | some (_, .adr q _ _) => inL l q && rootish st q
  | some (_, .elt r _ _) => inL l r.s && rootish st r.s
  | some _ => true
def keepGo (st : St) (l0 : List Nat) : List Nat → St
  | [] => []
  | s :: r => bif keepOk st l0 s then match stGet st s with
      | some (k, x) => (s, k, x) :: keepGo st l0 r
      | none => keepGo st l0 r
    else keepGo st l0 r
def keepSt (st : St) (l : List Nat) : St := keepGo st l l
theorem inL_iff {l : List Nat} {s : Nat} : inL l s = true ↔ s ∈ l := by
  unfold inL
  simp only [List.any_eq_true, beq_eq, decide_eq_true_eq]
  exact ⟨fun ⟨t, h, e⟩ => e ▸ h, fun h => ⟨s, h, rfl⟩⟩
theorem stGet_keepGo (st : St) (l0 : List Nat) (s : Nat) : ∀ l : List Nat, stGet (keepGo st l0 l) s = if s ∈ l ∧ keepOk st l0 s = true then stGet st s else none
  | [] => by simp [keepGo, stGet]
  | t :: r => by
    have ih := stGet_keepGo st l0 s r
    simp only [keepGo, cond_eq_ite]
    by_cases hk : keepOk st l0 t = true
    · rw [if_pos hk]
      cases hg : stGet st t with
      | none => unfold keepOk at hk; rw [hg] at hk; cases hk
      | some p =>
        obtain ⟨k, x⟩ := p
        simp only [stGet, beq_eq]
        by_cases hts : t = s
        · subst hts; simp [hk, hg]
        · simp only [hts, decide_false, cond_false, ih, List.mem_cons, Ne.symm hts, false_or]
    · rw [if_neg hk, ih]
      by_cases hts : t = s
      · subst hts; simp [hk]
      · simp [Ne.symm hts]
theorem keepSt_sub (st : St) (l : List Nat) : Sub (stGet st) (stGet (keepSt st l)) := by
  have key : ∀ s, stGet (keepSt st l) s = if s ∈ l ∧ keepOk st l s = true then stGet st s else none := fun s => stGet_keepGo st l s l
  have root : ∀ q, inL l q = true → rootish st q = true → stGet (keepSt st l) q = stGet st q := by
    intro q h1 h2
    rw [key q, if_pos]
    refine ⟨inL_iff.1 h1, ?_⟩
    unfold rootish at h2
    unfold keepOk
    split at h2
    · rename_i h; rw [h]
    · rename_i h; rw [h]
    · cases h2
  refine ⟨fun s p h => ?_, fun s k x h => ?_⟩
  · rw [key s] at h
    split at h
    · exact h
    · cases h
  · rw [key s] at h
    split at h
    · rename_i hk
      have hk := hk.2
      unfold keepOk at hk
      rw [h] at hk
      cases x with
      | ref r => simp only [Bool.and_eq_true] at hk; exact root _ hk.1 hk.2
      | adr q k o => simp only [Bool.and_eq_true] at hk; exact root _ hk.1 hk.2
      | elt r j o => simp only [Bool.and_eq_true] at hk; exact root _ hk.1 hk.2
      | _ => trivial
    · cases h
end Go.X
namespace Go.X
open Go

/-- values, each told, with the blocks in a row -/
def Alls (h : Hp) (w : World) : List S → List Value → List Nat → Prop
  | [], vs, bs => vs = [] ∧ bs = []
  | x :: xs, vs, bs => ∃ v vs' b1 b2, vs = v :: vs' ∧ bs = b1 ++ b2 ∧ Tells h w x v b1 ∧ Alls h w xs vs' b2

/-- what is so when a call comes back -/
structure Ret (h : Hp) (w : World) (vs : List Value) (bs : List Nat) (outs : List S) (res : S) (k : Hp) (bo br : List Nat) (v : Value) (w' : World) : Prop where
  le : h.le k
  newc : ∀ b, b < w.heap.size → b ∉ bs → ∀ i, k.c b i = h.c b i
  newg : ∀ b, b < w.heap.size → k.g b = h.g b
  holds : k.holds w'
  fr : Fr w w' fun b => b ∈ bs ∨ ∃ l, h.g b = some l
  outs : Alls k w' outs vs bo
  res : Tells k w' res v br
  nodup : (bo ++ br).Nodup
  mine : ∀ b ∈ bo ++ br, (w.heap.size ≤ b ∨ b ∈ bs) ∧ b < w'.heap.size
def Answers (P : Program) (f : FuncId) (args : Array Value) (w : World) (R : Value → World → Prop) : Prop :=
  (∃ v w', (callFunc f args).run P w = .ok (.value v) w' ∧ R v w') ∨
  ((callFunc f args).run P w = .ok (.enter f args) w ∧ Calls P f args w fun e w' => match e with | .returned v => R v w' | _ => False)
/-- THE CONTRACT: of arguments that are told so, the function gives back a result that is told so, and what was lent. -/
def Den (P : Program) (f : FuncId) (args outs : List S) (res : S) : Prop :=
  ∀ h w vs bs, h.holds w → Alls h w args vs bs → bs.Nodup → (∀ b ∈ bs, b < w.heap.size) →
    Answers P f vs.toArray w fun v w' => ∃ k bo br, Ret h w vs bs outs res k bo br v w'

theorem Answers.mono {P : Program} {f : FuncId} {args : Array Value} {w : World} {R R' : Value → World → Prop} (h : Answers P f args w R) (hr : ∀ v w', R v w' → R' v w') : Answers P f args w R' := by
  rcases h with ⟨v, w', h1, h2⟩ | ⟨h1, h2⟩
  · exact .inl ⟨v, w', h1, hr _ _ h2⟩
  · refine .inr ⟨h1, h2.mono fun e w' he => ?_⟩
    cases e with
    | returned v => exact hr _ _ he
    | panicked c => exact he
    | outgrown => exact he

theorem SimW.retell {cx : Cx} {h : Hp} {bs : Nat → List Nat} {g : Lk} {a : Act} {w : World} (M : SimW cx h bs g a w) {d : Nat} {x : S} {v : Value} {pb : List Nat}
    (hv : a.tmps[d]? = some v) (ht : Tells h w x v pb) (hr : Refs g a w x v) (hn : pb.Nodup) (hdj : ∀ s, s ≠ d → ∀ b, b ∈ pb → b ∈ bs s → False)
    (hm : ∀ b ∈ pb, cx.w0.heap.size ≤ b ∨ b ∈ cx.lb) (hl : ∀ b ∈ pb, b < w.heap.size) :
    SimW cx h (fun s => if s = d then pb else bs s) (lkPut g d x) a w := by
  have hsz : d < a.tmps.size := by
    rcases Nat.lt_or_ge d a.tmps.size with h | h
    · exact h
    · rw [Array.getElem?_eq_none h] at hv; cases hv
  let cx' : Cx := { cx with pin := fun s => if s = d then none else cx.pin s }
  have M' : SimW cx' h bs g a w := ⟨M.le, M.newc, M.newg, M.holds, M.fr, M.defers, M.size, M.slot, M.nodup, M.disj, M.mine, M.lt, fun s u hu => by
    have hu : (if s = d then none else cx.pin s) = some u := hu
    split at hu
    · cases hu
    · exact M.pins s u hu⟩
  have M2 := M'.put (d := d) (x := x) (v := v) (pb := pb) (by show d < cx.n; rw [← M.size]; exact hsz) (by show (if d = d then none else _) = none; simp) ht hr hn hdj hm hl
  have ha : a.put (some d) v = a := by
    have : a.tmps.setIfInBounds d v = a.tmps := by
      apply Array.ext_getElem?
      intro i
      rw [Array.getElem?_setIfInBounds]
      by_cases hi : d = i
      · subst hi; rw [if_pos rfl, if_pos hsz, hv]
      · rw [if_neg hi]
    show ({ a with tmps := a.tmps.setIfInBounds d v } : Act) = a
    rw [this]
  rw [ha] at M2
  exact ⟨M2.le, M2.newc, M2.newg, M2.holds, M2.fr, M2.defers, M2.size, M2.slot, M2.nodup, M2.disj, M2.mine, M2.lt, M.pins⟩

theorem OwnC.nog {h : Hp} {w : World} {c : C} {v : Value} {bs : List Nat} (ho : OwnC h w c v bs) : ∀ b ∈ bs, h.g b = none := by
  cases c with
  | d x => intro b hb; rw [ho.2] at hb; cases hb
  | own sz n f =>
    obtain ⟨b, p, cap, cells, e, _, _, _, _, _, rfl, hf⟩ := ho
    intro x hx; simp only [List.mem_singleton] at hx; subst hx; exact hf.g
  | app sz n f =>
    rcases ho with ⟨_, _, rfl⟩ | ⟨b, cap, cells, e, _, _, _, _, _, _, hg, rfl, _⟩
    · intro x hx; cases hx
    · intro x hx; simp only [List.mem_singleton] at hx; subst hx; exact hg
theorem OwnCs.nog {h : Hp} {w : World} : ∀ {cs : List C} {vs : List Value} {bs : List Nat}, OwnCs h w cs vs bs → ∀ b ∈ bs, h.g b = none
  | [], _, _, ho, b, hb => by rw [ho.2] at hb; cases hb
  | _ :: _, _, _, ⟨v, vs', b1, b2, _, hb, h1, h2⟩, b, hm => by
    subst hb
    rcases List.mem_append.1 hm with h | h
    · exact h1.nog b h
    · exact OwnCs.nog h2 b h
theorem TupTells.nog {h : Hp} {w : World} : ∀ {cs : List (Bool × List C)} {vs : List Value} {bs : List Nat}, TupTells h w cs vs bs → ∀ b ∈ bs, h.g b = none
  | [], _, _, ho, b, hb => by rw [ho.2] at hb; cases hb
  | _ :: _, _, _, ⟨v, vs', b1, b2, _, hb, h1, h2⟩, b, hm => by
    subst hb
    rcases List.mem_append.1 hm with h | h
    · rcases h1 with ⟨_, rfl⟩ | ⟨us, o, _⟩
      · cases h
      · exact o.nog b h
    · exact TupTells.nog h2 b h
theorem Tells.nog {h : Hp} {w : World} {x : S} {v : Value} {bs : List Nat} (ht : Tells h w x v bs) : ∀ b ∈ bs, h.g b = none := by
  cases x with
  | one ag cs => obtain ⟨us, o, _⟩ := ht; exact o.nog
  | tup xs => obtain ⟨vs, _, o⟩ := ht; exact o.nog
  | box t cs =>
    obtain ⟨b, vs, bs', _, _, o, rfl, hf⟩ := ht
    intro x hx
    rcases List.mem_cons.1 hx with rfl | hx
    · exact hf.g
    · exact o.nog x hx
  | imm sz off e => obtain ⟨rfl, _⟩ := ht; intro b hb; cases hb
  | ifc t ag cs => obtain ⟨rfl, _⟩ := ht; intro b hb; cases hb
  | itr s p => obtain ⟨b, _, _, rfl, hf⟩ := ht; intro x hx; simp only [List.mem_singleton] at hx; subst hx; exact hf.g
  | bld t e l => obtain ⟨b, p, u, bs', _, _, _, _, rfl, hf⟩ := ht; exact fun x hx => (hf x hx).g
  | ref r => intro b hb; rw [show bs = [] from ht] at hb; cases hb
  | adr s k o => intro b hb; rw [show bs = [] from ht] at hb; cases hb
  | elt r j o => intro b hb; rw [show bs = [] from ht] at hb; cases hb
  | no => intro b hb; rw [show bs = [] from ht] at hb; cases hb
end Go.X
namespace Go.X
open Go

/-- What an operation does, calls among them: besides what the core does, slots that were lent are told anew (their version goes on). -/
structure EffX where
  rd : List Nat
  md : List (Nat × S)
  pt : List (Nat × S)
  res : S
  pre : F
def Eff.x (tr : Bool) (e : Eff) : EffX := { rd := e.rd, md := e.md, pt := [], res := e.res, pre := bif tr then .t else .a e.pre }
def lkPuts (g : Lk) : List (Nat × S) → Lk
  | [] => g
  | (s, x) :: r => lkPuts (lkPut g s x) r
def puts (st : St) : List (Nat × S) → St
  | [] => st
  | (s, x) :: r => puts (stPut st s x) r
theorem stGet_puts (st : St) (l : List (Nat × S)) : stGet (puts st l) = lkPuts (stGet st) l := by
  induction l generalizing st with
  | nil => rfl
  | cons p r ih => obtain ⟨s, x⟩ := p; simp only [puts, lkPuts, ih, stGet_put]
def uponX (g : Lk) (e : EffX) (d : Option Tmp) : Lk := lkDst (lkPuts (lkMods g e.md) e.pt) d e.res

def plainS : S → Bool
  | .one _ cs => cs.all C.isD
  | _ => false
def ownish : S → Bool
  | .one false [.own ..] => true
  | .box .. => true
  | .bld .. => true
  | _ => false
def firm : S → Bool
  | .ref _ => false
  | .adr .. => false
  | .elt .. => false
  | _ => true
/-- an argument: what is read, what is lent, what must hold -/
def argE (g : Lk) (x : Operand) (exp out : S) : Option (List Nat × List (Nat × S) × F) :=
  bif plainS exp then
    match plainOf g x with
    | some (r, ag, cs) => match convT (.one ag cs) exp with
      | some p => some (r, [], p)
      | none => none
    | none => none
  else bif !firm exp || !firm out then none else
    match src g x with
    | some (some t, _, .ref r) => match r.c, g r.s with
      | none, some (k, y) => bif Nat.beq k r.k && ownish y then
          match convT y exp with
          | some p => some ([r.s, t], [(r.s, out)], p)
          | none => none
        else none
      | _, _ => none
    | some (some t, _, y) => bif ownish y then
        match convT y exp with
        | some p => some ([t], [(t, out)], p)
        | none => none
      else none
    | _ => none
def argsE (g : Lk) : List Operand → List S → List S → Option (List Nat × List (Nat × S) × F)
  | [], [], [] => some ([], [], .t)
  | x :: xs, e :: es, o :: os => match argE g x e o, argsE g xs es os with
    | some (r, l, p), some (r', l', p') => bif l.any fun m => l'.any fun m' => Nat.beq m.1 m'.1 then none else some (r ++ r', l ++ l', .c p p')
    | _, _ => none
  | _, _, _ => none
def callE (K : FuncId → List S → List S → S → Prop) (g : Lk) (f : FuncId) (xs : List Operand) (es os : List S) (res : S) : Option EffX :=
  match argsE g xs es os with
  | some (r, l, p) => bif firm res then some { rd := r, md := [], pt := l, res, pre := .c p (.a (K f es os res)) } else none
  | none => none

/-- an argument that is lent to be read alone: it is told as before when it comes back -/
def argR (g : Lk) (x : Operand) (exp out : S) : Option (List Nat × F) :=
  bif plainS exp then
    match plainOf g x with
    | some (r, ag, cs) => match convT (.one ag cs) exp with
      | some p => some (r, p)
      | none => none
    | none => none
  else bif !firm exp || !firm out then none else
    match src g x with
    | some (some t, _, .ref r) => match r.c, g r.s with
      | none, some (k, .box bt cs) => bif Nat.beq k r.k && !cs.any C.isOwn then
          match convT (.box bt cs) exp, convT out (.box bt cs) with
          | some p, some q => some ([r.s, t], .c p q)
          | _, _ => none
        else none
      | _, _ => none
    | some (some t, _, .box bt cs) => bif !cs.any C.isOwn then
        match convT (.box bt cs) exp, convT out (.box bt cs) with
        | some p, some q => some ([t], .c p q)
        | _, _ => none
      else none
    | _ => none
def argsR (g : Lk) : List Operand → List S → List S → Option (List Nat × F)
  | [], [], [] => some ([], .t)
  | x :: xs, e :: es, o :: os => match argR g x e o, argsR g xs es os with
    | some (r, p), some (r', p') => some (r ++ r', .c p p')
    | _, _ => none
  | _, _, _ => none
/-- a store of what is owned, into a box: the box is told anew -/
def storeX (T : Tab) (g : Lk) (t : TypeId) (a x : Operand) : Option EffX :=
  bif !kn T t then none else
  match addrOf g a, src g x with
  | some (rd, .adr s k off), some (some q, _, .one ag xs) => match boxAt g s k with
    | some (bt, cs) => bif Nat.beq xs.length (T t).size && (ag == aggK (T t).k) && Nat.ble (off + xs.length) cs.length && !Nat.beq q s then
          some { rd := q :: rd, md := [(q, .no)], pt := [(s, .box bt (placeAt cs off xs))], res := .no, pre := .t }
        else none
    | none => none
  | _, _ => none
def callR (K : FuncId → List S → List S → S → Prop) (g : Lk) (f : FuncId) (xs : List Operand) (es os : List S) (res : S) : Option EffX :=
  match argsR g xs es os, argsE g xs es os with
  | some (r, p), some (r', _) => bif firm res then some { rd := r ++ r', md := [], pt := [], res, pre := .c p (.a (K f es os res)) } else none
  | _, _ => none

variable {cx : Cx} {h : Hp} {bs : Nat → List Nat} {g : Lk} {a : Act} {w : World}

theorem SimW.norm (M : SimW cx h bs g a w) : SimW cx h (fun s => if (g s).isSome then bs s else []) g a w := by
  refine ⟨M.le, M.newc, M.newg, M.holds, M.fr, M.defers, M.size, ?_, ?_, ?_, ?_, ?_, M.pins⟩
  · intro s k x hx
    have := M.slot s k x hx
    rw [if_pos (by rw [hx]; rfl)]; exact this
  · intro s; split
    · exact M.nodup s
    · exact List.nodup_nil
  · intro s t hst b h1 h2
    split at h1
    · split at h2
      · exact M.disj s t hst b h1 h2
      · cases h2
    · cases h1
  · intro s b hb
    split at hb
    · exact M.mine s b hb
    · cases hb
  · intro s b hb
    split at hb
    · exact M.lt s b hb
    · cases hb

theorem firm_refs {x : S} {v : Value} (hf : firm x = true) : Refs g a w x v := by
  cases x <;> first | trivial | (simp [firm] at hf)

theorem arg_ok (M : SimW cx h bs g a w) {x : Operand} {exp out : S} {rd : List Nat} {pt : List (Nat × S)} {p : F} (hc : argE g x exp out = some (rd, pt, p)) (hp : p.h) :
    ∃ b, Tells h w exp (a.eval x) b ∧ b.Nodup ∧ ((pt = [] ∧ b = []) ∨ ∃ t k y, pt = [(t, out)] ∧ firm out = true ∧ (∀ q ∈ b, q ∈ bs t) ∧ g t = some (k, y) ∧ a.tmps[t]? = some (a.eval x)) := by
  unfold argE at hc
  simp only [cond_eq_ite] at hc
  split at hc
  · rename_i hpl
    split at hc
    · rename_i r ag cs hx
      split at hc
      · rename_i q hq
        simp only [Option.some.injEq, Prod.mk.injEq] at hc
        obtain ⟨rfl, rfl, rfl⟩ := hc
        obtain ⟨vs, h1, h2, h3⟩ := plainOf_tells M hx
        have ht : Tells h w (.one ag cs) (a.eval x) [] := ⟨vs, h1, h2, fun e => by rw [← h1.length]; exact h3 e⟩
        obtain ⟨b', h4, h5⟩ := convT_ok ht hq hp
        have := List.eq_nil_of_sublist_nil h5
        subst this
        exact ⟨[], h4, List.nodup_nil, .inl ⟨rfl, rfl⟩⟩
      · cases hc
    · cases hc
  · split at hc
    · cases hc
    rename_i hfirm
    simp only [Bool.or_eq_true, Bool.not_eq_true', not_or, Bool.not_eq_false] at hfirm
    split at hc
    · rename_i t k r hx
      obtain ⟨_, hr, hs⟩ := src_tells M hx
      split at hc
      · rename_i k' y hrc hg
        split at hc
        · rename_i hq
          simp only [Bool.and_eq_true] at hq
          split at hc
          · rename_i q hcv
            simp only [Option.some.injEq, Prod.mk.injEq] at hc
            obtain ⟨rfl, rfl, rfl⟩ := hc
            obtain ⟨kk, yy, f1, f2, f3⟩ := hr
            rw [hg] at f1
            injection f1 with f1; injection f1 with f1 f4; subst f1; subst f4
            have hv := f3 (Nat.eq_of_beq_eq_true hq.1) (.inl hrc)
            unfold rootV at hv
            rw [hrc] at hv
            simp only at hv
            obtain ⟨u, hu, ht, _⟩ := M.slot r.s k' y hg
            rw [hv] at hu; injection hu with hu; subst hu
            obtain ⟨b', h4, h5⟩ := convT_ok ht hcv hp
            exact ⟨b', h4, (M.nodup r.s).sublist h5, .inr ⟨r.s, k', y, rfl, hfirm.2, fun q hq => h5.subset hq, hg, hv⟩⟩
          · cases hc
        · cases hc
      · cases hc
    · rename_i t k y _ hx
      obtain ⟨ht, _, hs⟩ := src_tells M hx
      split at hc
      · split at hc
        · rename_i q hcv
          simp only [Option.some.injEq, Prod.mk.injEq] at hc
          obtain ⟨rfl, rfl, rfl⟩ := hc
          obtain ⟨h1, h2⟩ := hs t rfl
          obtain ⟨b', h4, h5⟩ := convT_ok ht hcv hp
          exact ⟨b', h4, (M.nodup t).sublist h5, .inr ⟨t, k, y, rfl, hfirm.2, fun q hq => h5.subset hq, h1, h2⟩⟩
        · cases hc
      · cases hc
    · cases hc

theorem args_ok (M : SimW cx h bs g a w) : ∀ {xs : List Operand} {es os : List S} {rd : List Nat} {pt : List (Nat × S)} {p : F}, argsE g xs es os = some (rd, pt, p) → p.h →
    ∃ b, Alls h w es (xs.map a.eval) b ∧ b.Nodup ∧ (∀ q ∈ b, ∃ m ∈ pt, q ∈ bs m.1)
  | [], [], [], _, _, _, hc, _ => by
    simp only [argsE, Option.some.injEq, Prod.mk.injEq] at hc
    obtain ⟨rfl, rfl, rfl⟩ := hc
    exact ⟨[], ⟨rfl, rfl⟩, List.nodup_nil, fun q hq => by cases hq⟩
  | x :: xs, e :: es, o :: os, _, _, _, hc, hp => by
    simp only [argsE, cond_eq_ite] at hc
    split at hc
    · rename_i r l p r' l' p' h1 h2
      split at hc
      · cases hc
      · rename_i hd
        simp only [Option.some.injEq, Prod.mk.injEq] at hc
        obtain ⟨rfl, rfl, rfl⟩ := hc
        obtain ⟨b1, t1, n1, o1⟩ := arg_ok M h1 hp.1
        obtain ⟨b2, t2, n2, o2⟩ := args_ok M h2 hp.2
        refine ⟨b1 ++ b2, ⟨_, _, b1, b2, rfl, rfl, t1, t2⟩, ?_, ?_⟩
        · refine List.nodup_append.2 ⟨n1, n2, fun q hq q' hq' he => ?_⟩
          subst he
          rcases o1 with ⟨_, rfl⟩ | ⟨t, k, y, rfl, _, hb, _⟩
          · cases hq
          · obtain ⟨m, hm, hqm⟩ := o2 q hq'
            have hne : t ≠ m.1 := by
              intro he
              apply hd
              simp only [List.any_cons, List.any_nil, Bool.or_false, List.any_eq_true, beq_eq, decide_eq_true_eq]
              exact ⟨m, hm, he⟩
            exact M.disj t m.1 hne q (hb q hq) hqm
        · intro q hq
          rcases List.mem_append.1 hq with hq | hq
          · rcases o1 with ⟨_, rfl⟩ | ⟨t, k, y, rfl, _, hb, _⟩
            · cases hq
            · exact ⟨(t, o), by simp, hb q hq⟩
          · obtain ⟨m, hm, hqm⟩ := o2 q hq
            exact ⟨m, by simp [hm], hqm⟩
    · cases hc
  | [], [], _ :: _, _, _, _, hc, _ => by simp [argsE] at hc
  | [], _ :: _, _, _, _, _, hc, _ => by simp [argsE] at hc
  | _ :: _, [], _, _, _, _, hc, _ => by simp [argsE] at hc
  | _ :: _, _ :: _, [], _, _, _, hc, _ => by simp [argsE] at hc

/-- slots are emptied -/
theorem empties : ∀ (l : List (Nat × S)) {bs : Nat → List Nat} {g : Lk}, SimW cx h bs g a w → (∀ m ∈ l, ∃ k y, g m.1 = some (k, y)) →
    ∃ bs' g', SimW cx h bs' g' a w ∧ (∀ s, (∀ m ∈ l, m.1 ≠ s) → bs' s = bs s ∧ g' s = g s) ∧ (∀ m ∈ l, bs' m.1 = [] ∧ ∃ k y, g m.1 = some (k, y) ∧ g' m.1 = some (k, .no))
  | [], bs, g, M, _ => ⟨bs, g, M, fun _ _ => ⟨rfl, rfl⟩, fun m hm => by cases hm⟩
  | m :: l, bs, g, M, hm => by
    obtain ⟨k, y, hg⟩ := hm m (by simp)
    have M1 := M.mod hg (x := .no) (pb := []) (fun u _ => ⟨rfl, trivial⟩) List.nodup_nil (fun b hb => by cases hb) (fun t cs' h => by cases h) (fun c h => by rw [noOwn_no] at h; cases h)
    obtain ⟨bs', g', M2, h1, h2⟩ := empties l M1 (fun m' hm' => by
      obtain ⟨k', y', hg'⟩ := hm m' (by simp [hm'])
      by_cases he : m'.1 = m.1
      · exact ⟨k, .no, by simp [lkMod, he, hg]⟩
      · exact ⟨k', y', by simp [lkMod, he, hg']⟩)
    refine ⟨bs', g', M2, fun s hs => ?_, fun m' hm' => ?_⟩
    · obtain ⟨e1, e2⟩ := h1 s fun m' hm' => hs m' (by simp [hm'])
      have hne : s ≠ m.1 := fun e => hs m (by simp) e.symm
      exact ⟨by rw [e1, if_neg hne], by rw [e2]; simp [lkMod, hne]⟩
    · by_cases hin : ∀ m'' ∈ l, m''.1 ≠ m'.1
      · obtain ⟨e1, e2⟩ := h1 m'.1 hin
        have he : m'.1 = m.1 := by
          rcases List.mem_cons.1 hm' with h | h
          · rw [h]
          · exact absurd rfl (hin m' h)
        exact ⟨by rw [e1, if_pos he], k, y, by rw [he]; exact hg, by rw [e2]; simp [lkMod, he, hg]⟩
      · have hin : ∃ m'' ∈ l, m''.1 = m'.1 := by
          refine Classical.byContradiction fun hc => hin fun m'' h1 h2 => hc ⟨m'', h1, h2⟩
        obtain ⟨m'', hl, he⟩ := hin
        obtain ⟨e1, k', y', e2, e3⟩ := h2 m'' hl
        rw [he] at e1 e2 e3
        refine ⟨e1, k', ?_⟩
        by_cases hem : m'.1 = m.1
        · simp only [lkMod, hem, if_true, hg, Option.map_some, Option.some.injEq, Prod.mk.injEq] at e2
          exact ⟨y, by rw [hem, hg, e2.1], e3⟩
        · simp only [lkMod, hem, if_false] at e2
          exact ⟨y', e2, e3⟩
end Go.X
