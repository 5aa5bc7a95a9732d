/- Part 7 of the proof of BackSums: All operations of the core together; what an operation does, as the kit's rules for regions ask. Locality: what an operation does hangs on the slots that it reads alone. Locality, of the other operations, and of all. No conditions but those that each theorem names. -/
import Derived.Test.YthmecihkgdaffaaGreatDoorP06
namespace Go.X
open Go

/-- An operation, in a state, has an effect: however it goes on. -/
def Does (cx : Cx) (g : Lk) (o : Oper) (e : Eff) : Prop :=
  ∀ (next : Act → World → Prop) (Q : Exit → Act → World → Prop) a w, Sim cx g a w → (∀ a' w', Sim cx (upon g e o.dst) a' w' → next a' w') → o.wp cx.P a w next Q

theorem Good.does {cx : Cx} {g : Lk} {o : Oper} {e : Eff} (h : Good cx g o e) : Does cx g o e := by
  intro next Q a w hs hn
  obtain ⟨nx, w', v, hr, hv, hS⟩ := h a w hs
  unfold Oper.wp
  rw [hr]
  rcases hv with rfl | ⟨rfl, rfl⟩
  · exact hn _ _ hS
  · exact hn _ _ hS

def isStore : Op → Bool
  | .store .. => true
  | _ => false

theorem arr1 {α : Type} {x : Array α} {a : α} (h : x.toList = [a]) : x = #[a] := by
  have := congrArg List.toArray h; simpa using this
theorem arr2 {α : Type} {x : Array α} {a b : α} (h : x.toList = [a, b]) : x = #[a, b] := by
  have := congrArg List.toArray h; simpa using this

theorem core_good {cx : Cx} {g : Lk} {o : Oper} {tk : Bool} {e : Eff} (hT : TabOk cx.P cx.T) (hd : DstOk cx o.dst) (hs : isStore o.op = true → o.dst = none)
    (hc : core cx.T g tk o.op = some e) (hp : e.pre) : Good cx g o e := by
  cases ho : o.op with
  | move x => rw [ho] at hc; exact good_move hd ho hc
  | assign x => rw [ho] at hc; exact good_assign hd ho hc
  | pick c x y => rw [ho] at hc; exact good_pick hd ho hc hp
  | alloc t => rw [ho] at hc; exact good_alloc hT hd ho hc
  | box t x => rw [ho] at hc; exact good_box hd ho hc
  | build t ps => rw [ho] at hc; exact good_build hT hd ho hc
  | buildSlice t n ps =>
    rw [ho] at hc
    simp only [core] at hc
    cases hq : (tk && (Nat.beq n 0 && ps.toList.isEmpty)) with
    | false => rw [hq] at hc; exact good_buildSlice hT hd ho hc
    | true =>
      rw [hq] at hc
      simp only [Bool.and_eq_true] at hq
      have hn := Nat.eq_of_beq_eq_true hq.2.1
      subst hn
      exact good_empty hT hd ho (List.isEmpty_iff.1 hq.2.2) hc
  | load t x => rw [ho] at hc; exact good_load hT hd ho hc
  | store t x y => rw [ho] at hc; exact good_store hT (hs (by rw [ho]; rfl)) ho hc
  | nilCheck x => rw [ho] at hc; exact good_nilCheck hd ho hc
  | binOp op t x y ty => rw [ho] at hc; exact good_bin hT hd ho hc hp
  | unOp op t x => rw [ho] at hc; exact good_un hd ho hc hp
  | convert s t x => rw [ho] at hc; exact good_conv hT hd ho hc hp
  | makeSlice t l c => rw [ho] at hc; exact good_makeSlice hT hd ho hc hp
  | slice t x lo hi mx =>
    rw [ho] at hc
    cases mx with
    | none => exact good_slice hT hd ho hc hp
    | some m => simp [core] at hc
  | fieldAddr t x i => rw [ho] at hc; exact good_fieldAddr hT hd ho hc
  | indexAddr t x i => rw [ho] at hc; exact good_indexAddr hT hd ho hc hp
  | index t x i => rw [ho] at hc; exact good_index hT hd ho hc hp
  | extract x i => rw [ho] at hc; exact good_extract hd ho hc
  | makeInterface t x => rw [ho] at hc; exact good_makeIfc hT hd ho hc
  | range t x => rw [ho] at hc; exact good_range hT hd ho hc
  | next x str => rw [ho] at hc; exact good_next hd ho hc
  | call c =>
    obtain ⟨callee, args, ts⟩ := c
    rw [ho] at hc
    cases callee with
    | builtin b =>
      simp only [core] at hc
      unfold builtinE at hc
      split at hc
      · rename_i t x h1 h2
        rw [arr1 h1, arr1 h2] at ho
        exact good_len hT hd ho hc
      · rename_i t t' x y h1 h2
        cases hq : Nat.beq t t' with
        | false => rw [hq] at hc; simp at hc
        | true =>
          rw [hq] at hc
          have := Nat.eq_of_beq_eq_true hq
          subst this
          rw [arr2 h1, arr2 h2] at ho
          exact good_append hT hd ho hc hp
      · rename_i t t' x y h1 h2
        cases hq : Nat.beq t t' with
        | false => rw [hq] at hc; simp at hc
        | true =>
          rw [hq] at hc
          have := Nat.eq_of_beq_eq_true hq
          subst this
          rw [arr2 h1, arr2 h2] at ho
          exact good_copyb hT hd ho hc
      · rename_i x y h2
        rw [arr2 h2] at ho
        exact good_minMax (mx := false) hd ho hc
      · rename_i x y h2
        rw [arr2 h2] at ho
        exact good_minMax (mx := true) hd ho hc
      · cases hc
    | value f => simp [core] at hc
    | invoke r m => simp [core] at hc
  | _ => rw [ho] at hc; simp [core] at hc

/-- a state without some of its slots -/
structure Sub (g g' : Lk) : Prop where
  sub : ∀ s p, g' s = some p → g s = some p
  root : ∀ s k x, g' s = some (k, x) → match x with
    | .ref r => g' r.s = g r.s
    | .adr q _ _ => g' q = g q
    | .elt r _ _ => g' r.s = g r.s
    | _ => True

theorem Sim.sub {cx : Cx} {g g' : Lk} {a : Act} {w : World} (hs : Sim cx g a w) (h : Sub g g') : Sim cx g' a w := by
  obtain ⟨hp, bs, M⟩ := hs
  refine ⟨hp, bs, { M with slot := fun s k x hx => ?_ }⟩
  obtain ⟨v, h1, h2, h3⟩ := M.slot s k x (h.sub s _ hx)
  refine ⟨v, h1, h2, ?_⟩
  have hr := h.root s k x hx
  cases x with
  | ref r =>
    simp only at hr
    obtain ⟨k1, y, e1, e2, e3⟩ := h3
    exact ⟨k1, y, by rw [hr]; exact e1, e2, fun q c => e3 q (c.imp id fun c => by rw [← atRoot_congr hr]; exact c)⟩
  | adr q k1 off =>
    simp only at hr
    obtain ⟨k2, y, e1, e2, e3⟩ := h3
    exact ⟨k2, y, by rw [hr]; exact e1, e2, e3⟩
  | elt r j off =>
    simp only at hr
    obtain ⟨k1, y, e1, e2, e3⟩ := h3
    exact ⟨k1, y, by rw [hr]; exact e1, e2, fun q sz n f c => e3 q sz n f (by rw [← atRoot_congr hr]; exact c)⟩
  | one ag cs => trivial
  | tup xs => trivial
  | box t cs => trivial
  | imm sz o e => trivial
  | ifc a b c => trivial
  | itr a b => trivial
  | bld a b c => trivial
  | no => trivial
end Go.X
namespace Go.X
open Go
variable {T : Tab} {g g' : Lk} {e : Eff}

def opSlots : Operand → List Nat
  | .tmp t => [t]
  | _ => []
def Agree (g g' : Lk) (l : List Nat) : Prop := ∀ s ∈ l, g' s = g s
theorem Agree.mono {l l' : List Nat} (h : Agree g g' l) (hl : ∀ s ∈ l', s ∈ l) : Agree g g' l' := fun s hs => h s (hl s hs)
theorem Agree.nil : Agree g g' [] := fun _ h => by cases h

theorem src_congr {x : Operand} (h : Agree g g' (opSlots x)) : src g' x = src g x := by
  cases x with
  | tmp t => have := h t (by simp [opSlots]); simp only [src, this]
  | _ => rfl
theorem src_slots {x : Operand} {s : Option Nat} {k : Nat} {y : S} (h : src g x = some (s, k, y)) : slots s = opSlots x := by
  unfold src at h
  split at h
  · split at h
    · simp only [Option.some.injEq, Prod.mk.injEq] at h; rw [← h.1]; rfl
    · cases h
  · rename_i v
    cases hb : oneB v with
    | true => rw [hb] at h; simp only [cond_true, Option.some.injEq, Prod.mk.injEq] at h; rw [← h.1]; rfl
    | false => rw [hb] at h; simp at h
  · cases h
theorem scal_congr {x : Operand} (h : Agree g g' (opSlots x)) : scal g' x = scal g x := by simp only [scal, src_congr h]
theorem scal_slots {x : Operand} {r : List Nat} {v : Value} (h : scal g x = some (r, v)) : r = opSlots x := by
  unfold scal at h
  split at h
  · rename_i hx; simp only [Option.some.injEq, Prod.mk.injEq] at h; rw [← h.1]; exact src_slots hx
  · cases h
theorem plainOf_congr {x : Operand} (h : Agree g g' (opSlots x)) : plainOf g' x = plainOf g x := by simp only [plainOf, src_congr h]
theorem plainOf_slots {x : Operand} {r : List Nat} {b : Bool} {v : List C} (h : plainOf g x = some (r, b, v)) : r = opSlots x := by
  unfold plainOf at h
  split at h
  · rename_i s k ag cs hx
    cases hb : cs.any C.isOwn with
    | true => rw [hb] at h; simp at h
    | false => rw [hb] at h; simp only [cond_false, Option.some.injEq, Prod.mk.injEq] at h; rw [← h.1]; exact src_slots hx
  · cases h
theorem boxAt_congr {s k : Nat} (h : g' s = g s) : boxAt g' s k = boxAt g s k := by simp only [boxAt, h]
theorem setRoot_congr {r : Root} {c : C} (h : g' r.s = g r.s) : setRoot g' r c = setRoot g r c := by simp only [setRoot, h]

theorem sliceOf_slots {x : Operand} {rd : List Nat} {r : Option Root} {c : C} (h : sliceOf g x = some (rd, r, c)) (hg : Agree g g' rd) : sliceOf g' x = some (rd, r, c) := by
  unfold sliceOf at h ⊢
  split at h
  · rename_i hx
    simp only [Option.some.injEq, Prod.mk.injEq] at h
    obtain ⟨rfl, rfl, rfl⟩ := h
    have hs := src_slots hx
    rw [src_congr (hg.mono (by rw [← hs]; simp [slots])), hx]
  · rename_i hx
    simp only [Option.some.injEq, Prod.mk.injEq] at h
    obtain ⟨rfl, rfl, rfl⟩ := h
    have hs := src_slots hx
    rw [src_congr (hg.mono (by rw [← hs]; simp [slots])), hx]
  · rename_i s k r0 hx
    split at h
    · rename_i sz n f hr
      simp only [Option.some.injEq, Prod.mk.injEq] at h
      obtain ⟨rfl, rfl, rfl⟩ := h
      have hs := src_slots hx
      rw [src_congr (hg.mono (by rw [← hs]; intro s hs; simp [hs])), hx]
      simp only [atRoot_congr (hg r0.s (by simp)), hr]
    · cases h
  · cases h
theorem addrOf_local {x : Operand} {rd : List Nat} {y : S} (h : addrOf g x = some (rd, y)) (hg : Agree g g' rd) : addrOf g' x = some (rd, y) := by
  unfold addrOf at h ⊢
  split at h
  · rename_i hx
    simp only [Option.some.injEq, Prod.mk.injEq] at h
    obtain ⟨rfl, rfl⟩ := h
    have hs := src_slots hx
    rw [src_congr (hg.mono (by rw [← hs]; simp [slots])), hx]
  · rename_i s k r hx
    have hs := src_slots hx
    split at h
    · rename_i k1 t1 c1 hc hr
      cases hb : Nat.beq k1 r.k with
      | true =>
        rw [hb] at h
        simp only [cond_true, Option.some.injEq, Prod.mk.injEq] at h
        obtain ⟨rfl, rfl⟩ := h
        rw [src_congr (hg.mono (by rw [← hs]; intro s hs; simp [hs])), hx]
        simp only [hg r.s (by simp), hc, hr, hb, cond_true]
      | false => rw [hb] at h; simp at h
    · cases h
  · rename_i s k t k1 off hx
    have hs := src_slots hx
    split at h
    · rename_i p hr
      simp only [Option.some.injEq, Prod.mk.injEq] at h
      obtain ⟨rfl, rfl⟩ := h
      rw [src_congr (hg.mono (by rw [← hs]; intro s hs; simp [hs])), hx]
      simp only [boxAt_congr (hg t (by simp)), hr]
    · cases h
  · rename_i s k r j off hx
    have hs := src_slots hx
    split at h
    · rename_i sz n f hr
      simp only [Option.some.injEq, Prod.mk.injEq] at h
      obtain ⟨rfl, rfl⟩ := h
      rw [src_congr (hg.mono (by rw [← hs]; intro s hs; simp [hs])), hx]
      simp only [atRoot_congr (hg r.s (by simp)), hr]
    · cases h
  · rename_i s k sz off e1 hx
    have hs := src_slots hx
    simp only [Option.some.injEq, Prod.mk.injEq] at h
    obtain ⟨rfl, rfl⟩ := h
    rw [src_congr (hg.mono (by rw [← hs]; intro s hs; simp [hs])), hx]
    cases s <;> rfl
  · rename_i s k l off hx
    have hs := src_slots hx
    simp only [Option.some.injEq, Prod.mk.injEq] at h
    obtain ⟨rfl, rfl⟩ := h
    rw [src_congr (hg.mono (by rw [← hs]; intro s hs; simp [hs])), hx]
    cases s <;> rfl
  · cases h
/-- the roots of what an address is stand among the slots that are read -/
theorem addrOf_adr {x : Operand} {rd : List Nat} {s k off : Nat} (h : addrOf g x = some (rd, .adr s k off)) : s ∈ rd := by
  unfold addrOf at h
  split at h
  · simp only [Option.some.injEq, Prod.mk.injEq, S.adr.injEq] at h; obtain ⟨rfl, rfl, _⟩ := h; simp
  · split at h
    · rename_i k1 _ _ r _ _ _ _ _ _ _
      revert h
      cases Nat.beq _ _ with
      | true => intro h; simp only [cond_true, Option.some.injEq, Prod.mk.injEq, S.adr.injEq] at h; obtain ⟨rfl, rfl, _⟩ := h; simp
      | false => intro h; simp at h
    · cases h
  · split at h
    · simp only [Option.some.injEq, Prod.mk.injEq, S.adr.injEq] at h; obtain ⟨rfl, rfl, _⟩ := h; simp
    · cases h
  · split at h
    · simp at h
    · cases h
  · simp at h
  · simp [oneD] at h
  · cases h
theorem addrOf_elt {x : Operand} {rd : List Nat} {r : Root} {j off : Nat} (h : addrOf g x = some (rd, .elt r j off)) : r.s ∈ rd := by
  unfold addrOf at h
  split at h
  · simp at h
  · split at h
    · revert h
      cases Nat.beq _ _ with
      | true => intro h; simp at h
      | false => intro h; simp at h
    · cases h
  · split at h
    · simp at h
    · cases h
  · split at h
    · simp only [Option.some.injEq, Prod.mk.injEq, S.elt.injEq] at h; obtain ⟨rfl, rfl, _⟩ := h; simp
    · cases h
  · simp at h
  · simp [oneD] at h
  · cases h

/-! ### the operations -/
theorem move_rd {tk : Bool} {x : Operand} (h : moveE g tk x = some e) : ∀ s ∈ opSlots x, s ∈ e.rd := by
  unfold moveE at h
  simp only [cond_eq_ite] at h
  repeat' split at h
  all_goals first
    | (cases h; done)
    | (rw [← src_slots ‹src g x = some _›]; simp only [eff, Option.some.injEq] at h; subst h; simp [slots]; done)
theorem move_local {tk : Bool} {x : Operand} (h : moveE g tk x = some e) (hg : Agree g g' e.rd) : moveE g' tk x = some e := by
  have := src_congr (hg.mono (move_rd h))
  unfold moveE at h ⊢; rw [this]; exact h
theorem assign_rd {x : Operand} (h : assignE g x = some e) : ∀ s ∈ opSlots x, s ∈ e.rd := by
  unfold assignE at h
  split at h
  all_goals first
    | exact move_rd h
    | (rw [← src_slots ‹src g x = some _›]; simp only [Option.some.injEq] at h; subst h; simp [slots]; done)
theorem assign_local {x : Operand} (h : assignE g x = some e) (hg : Agree g g' e.rd) : assignE g' x = some e := by
  have := src_congr (hg.mono (assign_rd h))
  unfold assignE at h ⊢
  unfold moveE at h ⊢
  rw [this]; exact h
theorem pick_local {c x y : Operand} (h : pickE g c x y = some e) (hg : Agree g g' e.rd) : pickE g' c x y = some e := by
  have : (∀ s ∈ opSlots c, s ∈ e.rd) ∧ (∀ s ∈ opSlots x, s ∈ e.rd) ∧ (∀ s ∈ opSlots y, s ∈ e.rd) := by
    unfold pickE at h
    split at h
    · rename_i h1 h2 h3
      have e1 := scal_slots h1; have e2 := scal_slots h2; have e3 := scal_slots h3
      simp only [eff, Option.some.injEq] at h; subst h; subst e1; subst e2; subst e3
      refine ⟨?_, ?_, ?_⟩ <;> (intro s hs; simp [hs])
    · rename_i h1 h2 h3
      have e1 := scal_slots h1; have e2 := scal_slots h2
      split at h
      · simp only [effp, Option.some.injEq] at h; subst h; subst e1; subst e2
        refine ⟨?_, ?_, ?_⟩ <;> (intro s hs; first | (simp [hs]; done) | (simp [opSlots] at hs; done) | (simp [opSlots] at hs; simp [hs]))
      · cases h
    · rename_i h1 h2 h3
      have e1 := scal_slots h1; have e2 := scal_slots h3
      split at h
      · simp only [effp, Option.some.injEq] at h; subst h; subst e1; subst e2
        refine ⟨?_, ?_, ?_⟩ <;> (intro s hs; first | (simp [hs]; done) | (simp [opSlots] at hs; done) | (simp [opSlots] at hs; simp [hs]))
      · cases h
    · cases h
  obtain ⟨h1, h2, h3⟩ := this
  have e1 := scal_congr (hg.mono h1); have e2 := scal_congr (hg.mono h2); have e3 := scal_congr (hg.mono h3)
  unfold pickE at h ⊢
  rw [e1, e2, e3]; exact h
theorem box_local {t : TypeId} {x : Operand} (h : boxE T g t x = some e) (hg : Agree g g' e.rd) : boxE T g' t x = some e := by
  have : ∀ s ∈ opSlots x, s ∈ e.rd := by
    unfold boxE at h
    simp only [cond_eq_ite] at h
    repeat' split at h
    all_goals first
      | (cases h; done)
      | (rw [← src_slots ‹src g x = some _›]; simp only [eff, Option.some.injEq] at h; subst h; simp [slots]; done)
  have := src_congr (hg.mono this)
  unfold boxE at h ⊢; rw [this]; exact h
theorem fill_rd {place : Nat → Option (Nat × Nat)} {pl : Bool} : ∀ {ps : List (Nat × Operand)} {rd : List Nat} {md : List (Nat × S)} {cs : List C} {r : List Nat × List (Nat × S) × List C},
    fillE pl g place ps rd md cs = some r → (∀ s ∈ rd, s ∈ r.1) ∧ ∀ p ∈ ps, ∀ s ∈ opSlots p.2, s ∈ r.1
  | [], rd, md, cs, r, h => by
    simp only [fillE, Option.some.injEq] at h; subst h
    exact ⟨fun _ h => h, fun _ h => by cases h⟩
  | (i, x) :: ps, rd, md, cs, r, h => by
    unfold fillE at h
    simp only [cond_eq_ite] at h
    repeat' split at h
    all_goals first
      | (cases h; done)
      | (obtain ⟨h1, h2⟩ := fill_rd h
         have hs := src_slots ‹src g x = some _›
         refine ⟨fun s hs => h1 s (by simp [hs]), fun p hp s hq => ?_⟩
         rcases List.mem_cons.1 hp with rfl | hp
         · refine h1 s ?_
           simp only at hq
           rw [← hs] at hq
           simp [slots] at hq ⊢
           try simp [hq]
         · exact h2 p hp s hq)
theorem fill_congr {place : Nat → Option (Nat × Nat)} {pl : Bool} : ∀ {ps : List (Nat × Operand)} (rd : List Nat) (md : List (Nat × S)) (cs : List C), (∀ p ∈ ps, Agree g g' (opSlots p.2)) →
    fillE pl g' place ps rd md cs = fillE pl g place ps rd md cs
  | [], _, _, _, _ => rfl
  | (i, x) :: ps, rd, md, cs, h => by
    unfold fillE
    rw [src_congr (x := x) (h (i, x) List.mem_cons_self)]
    have ih := fun rd md cs => fill_congr (place := place) (pl := pl) (ps := ps) rd md cs fun p hp => h p (List.mem_cons_of_mem _ hp)
    simp only [ih]
theorem build_local {t : TypeId} {ps : List (Nat × Operand)} (h : buildE T g t ps = some e) (hg : Agree g g' e.rd) : buildE T g' t ps = some e := by
  have : ∀ p ∈ ps, ∀ s ∈ opSlots p.2, s ∈ e.rd := by
    unfold buildE at h
    simp only [cond_eq_ite] at h
    repeat' split at h
    all_goals first
      | (cases h; done)
      | (have := (fill_rd ‹fillE _ g _ _ _ _ _ = some _›).2; simp only [Option.some.injEq] at h; subst h; exact this)
  have := fill_congr (place := placeT T t) (pl := false) (g := g) (g' := g') [] [] (T t).zero fun p hp => hg.mono (this p hp)
  unfold buildE at h ⊢; rw [this]; exact h
theorem buildSlice_local {t : TypeId} {n : Nat} {ps : List (Nat × Operand)} (h : buildSliceE T g t n ps = some e) (hg : Agree g g' e.rd) : buildSliceE T g' t n ps = some e := by
  have : ∀ p ∈ ps, ∀ s ∈ opSlots p.2, s ∈ e.rd := by
    unfold buildSliceE at h
    simp only [cond_eq_ite] at h
    repeat' split at h
    all_goals first
      | (cases h; done)
      | (have := (fill_rd ‹fillE _ g _ _ _ _ _ = some _›).2; simp only [eff, Option.some.injEq] at h; subst h; exact this)
  have := fun cs => fill_congr (place := placeT T t) (pl := true) (g := g) (g' := g') [] [] cs fun p hp => hg.mono (this p hp)
  unfold buildSliceE at h ⊢; simp only [this]; exact h
theorem nilCheck_local {x : Operand} (h : nilCheckE g x = some e) (hg : Agree g g' e.rd) : nilCheckE g' x = some e := by
  unfold nilCheckE at h
  split at h
  · rename_i hx
    have hs := src_slots hx
    simp only [eff, Option.some.injEq] at h; subst h
    unfold nilCheckE; rw [src_congr (hg.mono (by rw [← hs]; simp [slots])), hx]; rfl
  · rename_i s k r hx
    have hs := src_slots hx
    split at h
    · rename_i k1 t1 c1 hc hr
      cases hb : Nat.beq k1 r.k with
      | true =>
        rw [hb] at h
        simp only [cond_true, eff, Option.some.injEq] at h
        subst h
        unfold nilCheckE; rw [src_congr (hg.mono (by rw [← hs]; simp [slots])), hx]
        simp only [hg r.s (by simp), hc, hr, hb, cond_true, eff]
      | false => rw [hb] at h; simp at h
    · cases h
  · rename_i hx
    have hs := src_slots hx
    simp only [eff, Option.some.injEq] at h; subst h
    unfold nilCheckE; rw [src_congr (hg.mono (by rw [← hs]; simp [slots])), hx]; rfl
  · rename_i s k t k1 o hx
    have hs := src_slots hx
    split at h
    · rename_i p hr
      simp only [eff, Option.some.injEq] at h; subst h
      unfold nilCheckE; rw [src_congr (hg.mono (by rw [← hs]; simp [slots])), hx]
      simp only [boxAt_congr (hg t (by simp)), hr, eff]
    · cases h
  · cases h
theorem load_local {tk : Bool} {t : TypeId} {x : Operand} (h : loadE T g tk t x = some e) (hg : Agree g g' e.rd) : loadE T g' tk t x = some e := by
  unfold loadE at h ⊢
  simp only [cond_eq_ite] at h ⊢
  split at h
  · cases h
  rename_i hk
  rw [if_neg hk]
  split at h
  · rename_i rd s k off ha
    have hm := addrOf_adr ha
    have : e.rd = rd := by
      repeat' split at h
      all_goals first | (cases h; done) | (simp only [eff, Option.some.injEq] at h; subst h; rfl)
    rw [this] at hg
    rw [addrOf_local ha hg]
    simp only [boxAt_congr (hg s hm)]
    exact h
  · rename_i rd r j off ha
    have hm := addrOf_elt ha
    have : e.rd = rd := by
      repeat' split at h
      all_goals first | (cases h; done) | (simp only [eff, Option.some.injEq] at h; subst h; rfl)
    rw [this] at hg
    rw [addrOf_local ha hg]
    simp only [atRoot_congr (hg r.s hm)]
    exact h
  · rename_i rd sz off e1 ha
    have : e.rd = rd := by
      repeat' split at h
      all_goals first | (cases h; done) | (simp only [eff, Option.some.injEq] at h; subst h; rfl)
    rw [this] at hg
    rw [addrOf_local ha hg]
    exact h
  · rename_i rd l off ha
    have : e.rd = rd := by
      repeat' split at h
      all_goals first | (cases h; done) | (simp only [eff, Option.some.injEq] at h; subst h; rfl)
    rw [this] at hg
    rw [addrOf_local ha hg]
    exact h
  · cases h
theorem store_local {t : TypeId} {x y : Operand} (h : storeE T g t x y = some e) (hg : Agree g g' e.rd) : storeE T g' t x y = some e := by
  unfold storeE at h ⊢
  simp only [cond_eq_ite] at h ⊢
  split at h
  · cases h
  rename_i hk
  rw [if_neg hk]
  split at h
  · rename_i rd s k off sx kx ag xs ha hx
    have hm := addrOf_adr ha
    have hs := src_slots hx
    have : (∀ q ∈ rd, q ∈ e.rd) ∧ ∀ q ∈ slots sx, q ∈ e.rd := by
      repeat' split at h
      all_goals first | (cases h; done) | (simp only [Option.some.injEq] at h; subst h; constructor <;> (intro q hq; first | (simp [hq]; done) | (simp [slots] at hq; done) | (simp [slots] at hq; simp [hq])))
    have h1 := addrOf_local ha (hg.mono this.1)
    have h2 := src_congr (g := g) (g' := g') (x := y) (hg.mono (by rw [← hs]; exact this.2))
    rw [h1, h2, hx]
    simp only [boxAt_congr (hg s (this.1 s hm))]
    exact h
  · rename_i rd r j off sx kx ag xs ha hx
    have hm := addrOf_elt ha
    have hs := src_slots hx
    have : (∀ q ∈ rd, q ∈ e.rd) ∧ ∀ q ∈ slots sx, q ∈ e.rd := by
      repeat' split at h
      all_goals first | (cases h; done) | (simp only [Option.some.injEq] at h; subst h; constructor <;> (intro q hq; first | (simp [hq]; done) | (simp [slots] at hq; done) | (simp [slots] at hq; simp [hq])))
    have h1 := addrOf_local ha (hg.mono this.1)
    have h2 := src_congr (g := g) (g' := g') (x := y) (hg.mono (by rw [← hs]; exact this.2))
    rw [h1, h2, hx]
    simp only [atRoot_congr (hg r.s (this.1 _ hm)), setRoot_congr (hg r.s (this.1 _ hm))]
    exact h
  · cases h
end Go.X
namespace Go.X
open Go
variable {T : Tab} {g g' : Lk} {e : Eff}

theorem bin_local {op : BinOp} {t : TypeId} {x y : Operand} (h : binE T g op t x y = some e) (hg : Agree g g' e.rd) : binE T g' op t x y = some e := by
  have : (∀ s ∈ opSlots x, s ∈ e.rd) ∧ (∀ s ∈ opSlots y, s ∈ e.rd) := by
    unfold binE at h
    split at h
    · rename_i h1 h2
      have e1 := scal_slots h1; have e2 := scal_slots h2
      split at h
      · simp only [effp, Option.some.injEq] at h; subst h; subst e1; subst e2
        constructor <;> (intro s hs; simp [hs])
      · cases h
    · split at h
      · rename_i h1 h2
        have e1 := plainOf_slots h1; have e2 := plainOf_slots h2
        simp only [cond_eq_ite] at h
        repeat' split at h
        all_goals first
          | (cases h; done)
          | (simp only [eff, Option.some.injEq] at h; subst h; subst e1; subst e2; constructor <;> (intro s hs; simp [hs]))
      · cases h
  have e1 := scal_congr (hg.mono this.1); have e2 := scal_congr (hg.mono this.2)
  have e3 := plainOf_congr (hg.mono this.1); have e4 := plainOf_congr (hg.mono this.2)
  unfold binE at h ⊢
  rw [e1, e2, e3, e4]; exact h
theorem conv_local {s t : TypeId} {x : Operand} (h : convE T g s t x = some e) (hg : Agree g g' e.rd) : convE T g' s t x = some e := by
  have : ∀ s ∈ opSlots x, s ∈ e.rd := by
    unfold convE at h
    simp only [cond_eq_ite] at h
    repeat' split at h
    all_goals first
      | (cases h; done)
      | (rw [← scal_slots ‹scal g x = some _›]; simp only [eff, effp, Option.some.injEq] at h; subst h; exact fun _ h => h)
      | (rw [← plainOf_slots ‹plainOf g x = some _›]; simp only [effp, Option.some.injEq] at h; subst h; exact fun _ h => h)
  have e1 := scal_congr (hg.mono this)
  have e2 := plainOf_congr (hg.mono this)
  unfold convE at h ⊢; rw [e1, e2]; exact h
theorem un_local {op : UnOp} {x : Operand} (h : unE g op x = some e) (hg : Agree g g' e.rd) : unE g' op x = some e := by
  have : ∀ s ∈ opSlots x, s ∈ e.rd := by
    unfold unE at h
    repeat' split at h
    all_goals first
      | (cases h; done)
      | (rw [← scal_slots ‹scal g x = some _›]; simp only [eff, effp, Option.some.injEq] at h; subst h; exact fun _ h => h)
  have := scal_congr (hg.mono this)
  unfold unE at h ⊢; rw [this]; exact h
theorem fieldAddr_local {t : TypeId} {x : Operand} {i : Nat} (h : fieldAddrE T g t x i = some e) (hg : Agree g g' e.rd) : fieldAddrE T g' t x i = some e := by
  unfold fieldAddrE at h ⊢
  split at h
  · rename_i fs hk
    simp only [cond_eq_ite] at h ⊢
    split at h
    all_goals first
      | (cases h; done)
      | (split at h
         · cases h
         · rename_i hi ha hq
           have : addrOf g' x = addrOf g x := by
             simp only [eff, Option.some.injEq] at h; subst h
             rw [ha]; exact addrOf_local ha hg
           rw [hi, this, ha]
           simp only [if_neg hq]
           exact h)
  · cases h
theorem indexAddr_local {t : TypeId} {x i : Operand} (h : indexAddrE T g t x i = some e) (hg : Agree g g' e.rd) : indexAddrE T g' t x i = some e := by
  unfold indexAddrE at h ⊢
  split at h
  · rename_i ri k n et h1 hk
    have e1 := scal_slots h1
    simp only [cond_eq_ite] at h ⊢
    split at h
    · cases h
    rename_i hq
    have key : ∀ {rd : List Nat} {r : Option Root} {c : C}, sliceOf g x = some (rd, r, c) → e.rd = ri ++ rd → scal g' i = scal g i ∧ sliceOf g' x = sliceOf g x := by
      intro rd r c hx hr
      rw [hr] at hg
      refine ⟨scal_congr (hg.mono (by rw [← e1]; intro s hs; simp [hs])), ?_⟩
      rw [hx]; exact sliceOf_slots hx (hg.mono (by intro s hs; simp [hs]))
    split at h
    · rename_i hx
      split at h
      · rename_i hz
        have := key hx (by simp only [effp, Option.some.injEq] at h; subst h; rfl)
        rw [this.1, h1, hk]; simp only [if_neg hq]; rw [this.2, hx]; simp only [if_pos hz]; exact h
      · cases h
    · rename_i hx
      split at h
      · rename_i hz
        have := key hx (by simp only [effp, Option.some.injEq] at h; subst h; rfl)
        rw [this.1, h1, hk]; simp only [if_neg hq]; rw [this.2, hx]; simp only [if_pos hz]; exact h
      · cases h
    · rename_i hx
      split at h
      · rename_i hz
        have := key hx (by simp only [effp, Option.some.injEq] at h; subst h; rfl)
        rw [this.1, h1, hk]; simp only [if_neg hq]; rw [this.2, hx]; simp only [if_pos hz]; exact h
      · cases h
    · cases h
  · rename_i ri k n len et h1 hk
    have e1 := scal_slots h1
    simp only [cond_eq_ite] at h ⊢
    split at h
    · cases h
    rename_i hq
    split at h
    · rename_i rd s k1 off ha
      have hr : e.rd = ri ++ rd := by simp only [effp, Option.some.injEq] at h; subst h; rfl
      rw [hr] at hg
      rw [scal_congr (hg.mono (by rw [← e1]; intro s hs; simp [hs])), h1, hk]
      simp only [if_neg hq]
      rw [addrOf_local ha (hg.mono (by intro s hs; simp [hs]))]
      exact h
    · cases h
  · cases h
theorem index_local {t : TypeId} {x i : Operand} (h : indexE T g t x i = some e) (hg : Agree g g' e.rd) : indexE T g' t x i = some e := by
  have : (∀ s ∈ opSlots i, s ∈ e.rd) ∧ (∀ s ∈ opSlots x, s ∈ e.rd) := by
    unfold indexE at h
    split at h
    · rename_i h1 _
      have e1 := scal_slots h1
      split at h
      · rename_i h2
        have e2 := scal_slots h2
        simp only [effp, Option.some.injEq] at h; subst h; subst e1; subst e2
        constructor <;> (intro s hs; simp [hs])
      · cases h
    · rename_i h1 _
      have e1 := scal_slots h1
      split at h
      · rename_i h2
        have e2 := plainOf_slots h2
        simp only [cond_eq_ite] at h
        split at h
        · simp only [effp, Option.some.injEq] at h; subst h; subst e1; subst e2
          constructor <;> (intro s hs; simp [hs])
        · cases h
      · cases h
    · cases h
  have e1 := scal_congr (hg.mono this.1); have e2 := scal_congr (hg.mono this.2); have e3 := plainOf_congr (hg.mono this.2)
  unfold indexE at h ⊢
  rw [e1, e2, e3]; exact h
theorem extract_local {x : Operand} {i : Nat} (h : extractE g x i = some e) (hg : Agree g g' e.rd) : extractE g' x i = some e := by
  have : ∀ s ∈ opSlots x, s ∈ e.rd := by
    unfold extractE at h
    simp only [cond_eq_ite] at h
    repeat' split at h
    all_goals first
      | (cases h; done)
      | (rw [← src_slots ‹src g x = some _›]; simp only [eff, Option.some.injEq] at h; subst h; exact fun _ h => h)
  have := src_congr (hg.mono this)
  unfold extractE at h ⊢; rw [this]; exact h
theorem makeSlice_local {t : TypeId} {x y : Operand} (h : makeSliceE T g t x y = some e) (hg : Agree g g' e.rd) : makeSliceE T g' t x y = some e := by
  have : (∀ s ∈ opSlots x, s ∈ e.rd) ∧ (∀ s ∈ opSlots y, s ∈ e.rd) := by
    unfold makeSliceE at h
    split at h
    · rename_i h1 h2
      have e1 := scal_slots h1; have e2 := scal_slots h2
      simp only [cond_eq_ite] at h
      split at h
      · cases h
      · simp only [effp, Option.some.injEq] at h; subst h; subst e1; subst e2
        constructor <;> (intro s hs; simp [hs])
    · cases h
  have e1 := scal_congr (hg.mono this.1); have e2 := scal_congr (hg.mono this.2)
  unfold makeSliceE at h ⊢
  rw [e1, e2]; exact h
def optSlots : Option Operand → List Nat
  | none => []
  | some x => opSlots x
theorem opt_slots {o : Option Operand} {d : Int} {r : List Nat} {n : Int} (h : opt g o d = some (r, n)) : r = optSlots o := by
  unfold opt at h
  split at h
  · simp only [Option.some.injEq, Prod.mk.injEq] at h; rw [← h.1]; rfl
  · split at h
    · rename_i h1
      have := scal_slots h1
      simp only [Option.some.injEq, Prod.mk.injEq] at h; rw [← h.1]; exact this
    · cases h
theorem opt_congr {o : Option Operand} {d : Int} (h : Agree g g' (optSlots o)) : opt g' o d = opt g o d := by
  cases o with
  | none => rfl
  | some x => simp only [opt, scal_congr (x := x) h]
theorem sliceOf_op {g : Lk} {x : Operand} {rd : List Nat} {r : Option Root} {c : C} (h : sliceOf g x = some (rd, r, c)) : ∀ s ∈ opSlots x, s ∈ rd := by
  unfold sliceOf at h
  split at h
  · rename_i hs
    have := src_slots hs
    simp only [Option.some.injEq, Prod.mk.injEq] at h
    obtain ⟨rfl, _⟩ := h
    intro s h2; rw [← this] at h2; simpa [slots] using h2
  · rename_i hs
    have := src_slots hs
    intro s h2; rw [← this] at h2; simp [slots] at h2
  · rename_i hs
    have := src_slots hs
    split at h
    · simp only [Option.some.injEq, Prod.mk.injEq] at h
      obtain ⟨rfl, _⟩ := h
      intro s h2; rw [← this] at h2; simp [h2]
    · cases h
  · cases h
theorem sliceOwn_local {et : TypeId} {x : Operand} {lo hi : Option Operand} (h : sliceOwnE T g et x lo hi = some e) (hg : Agree g g' e.rd) : sliceOwnE T g' et x lo hi = some e ∧ plainOf g' x = plainOf g x ∧ scal g' x = scal g x := by
  unfold sliceOwnE at h
  split at h
  · rename_i rd r sz n f hs
    simp only [cond_eq_ite] at h
    split at h
    · rename_i hq
      split at h
      · rename_i r1 l r2 u h2 h3
        have e2 := opt_slots h2; have e3 := opt_slots h3
        simp only [Option.some.injEq] at h; subst h; subst e2; subst e3
        have a1 : Agree g g' rd := hg.mono fun s hs => by simp [hs]
        have a2 : Agree g g' (optSlots lo) := hg.mono fun s hs => by simp [hs]
        have a3 : Agree g g' (optSlots hi) := hg.mono fun s hs => by simp [hs]
        have a0 : Agree g g' (opSlots x) := a1.mono (sliceOf_op hs)
        refine ⟨?_, plainOf_congr a0, scal_congr a0⟩
        unfold sliceOwnE
        rw [sliceOf_slots hs a1]
        simp only [cond_eq_ite, if_pos hq, opt_congr a2, opt_congr a3, h2, h3]
      · cases h
    · cases h
  · cases h
theorem sliceArr_local {n : Nat} {et : TypeId} {x : Operand} (h : sliceArrE T g n et x = some e) (hg : Agree g g' e.rd) : sliceArrE T g' n et x = some e := by
  unfold sliceArrE at h ⊢
  split at h
  · rename_i rd s k ha
    have hm := addrOf_adr ha
    have hrd : e.rd = rd := by
      split at h
      · simp only [cond_eq_ite] at h
        split at h
        · simp only [Option.some.injEq] at h; subst h; rfl
        · cases h
      · cases h
    rw [hrd] at hg
    rw [addrOf_local ha hg]
    simp only [boxAt_congr (hg s hm)]
    exact h
  · cases h
theorem slice_local {t : TypeId} {x : Operand} {lo hi : Option Operand} (h : sliceE T g t x lo hi = some e) (hg : Agree g g' e.rd) : sliceE T g' t x lo hi = some e := by
  by_cases harr : ∃ n et, (T t).k = .arr n et
  · obtain ⟨n, et, hk⟩ := harr
    unfold sliceE at h ⊢
    rw [hk] at h ⊢
    simp only [cond_eq_ite] at h ⊢
    split at h
    · rename_i hq; rw [if_pos hq]; exact sliceArr_local h hg
    · cases h
  by_cases hown : ∃ et, (T t).k = .sl et ∧ sliceOwnE T g et x lo hi = some e ∧ ∀ rd sz n f, plainOf g x ≠ some (rd, false, [.d (.sf sz n f)])
  · obtain ⟨et, hk, h1, h2⟩ := hown
    obtain ⟨h3, h4, _⟩ := sliceOwn_local h1 hg
    have h0 := h
    unfold sliceE at h ⊢
    rw [hk] at h ⊢
    simp only [cond_eq_ite] at h ⊢
    split at h
    · cases h
    rename_i hkn
    rw [if_neg hkn, h4]
    split
    · rename_i hp; exact absurd hp (h2 _ _ _ _)
    · exact h3
  have : (∀ s ∈ opSlots x, s ∈ e.rd) ∧ (∀ s ∈ optSlots lo, s ∈ e.rd) ∧ (∀ s ∈ optSlots hi, s ∈ e.rd) := by
    unfold sliceE at h
    split at h
    · split at h
      · rename_i h1
        have e1 := scal_slots h1
        split at h
        · rename_i h2 h3
          have e2 := opt_slots h2; have e3 := opt_slots h3
          simp only [effp, Option.some.injEq] at h; subst h; subst e1; subst e2; subst e3
          refine ⟨?_, ?_, ?_⟩ <;> (intro s hs; simp [hs])
        · cases h
      · cases h
    · simp only [cond_eq_ite] at h
      split at h
      · cases h
      split at h
      · rename_i h1
        have e1 := plainOf_slots h1
        split at h
        · split at h
          · rename_i h2 h3
            have e2 := opt_slots h2; have e3 := opt_slots h3
            simp only [effp, Option.some.injEq] at h; subst h; subst e1; subst e2; subst e3
            refine ⟨?_, ?_, ?_⟩ <;> (intro s hs; simp [hs])
          · cases h
        · cases h
      · rename_i hk9 _ _ hnp
        exact absurd ⟨_, hk9, h, fun rd sz n f hp => hnp rd sz n f hp⟩ hown
    · rename_i hk9; exact absurd ⟨_, _, hk9⟩ harr
    · cases h
  have e1 := scal_congr (hg.mono this.1); have e2 := plainOf_congr (hg.mono this.1)
  have e3 := fun d => opt_congr (d := d) (hg.mono this.2.1); have e4 := fun d => opt_congr (d := d) (hg.mono this.2.2)
  unfold sliceE at h ⊢
  split at h
  · simp only [e1, e3, e4] at h ⊢; exact h
  · simp only [cond_eq_ite] at h ⊢
    split at h
    · cases h
    rename_i hk9 hkn
    rw [if_neg hkn]
    simp only [e2, e3, e4]
    split at h
    · exact h
    · rename_i hnp
      exact absurd ⟨_, hk9, h, fun rd sz n f hp => hnp rd sz n f hp⟩ hown
  · rename_i hk9; exact absurd ⟨_, _, hk9⟩ harr
  · cases h
theorem len_local {t : TypeId} {x : Operand} (h : lenE T g t x = some e) (hg : Agree g g' e.rd) : lenE T g' t x = some e := by
  unfold lenE at h
  split at h
  · rename_i hk
    split at h
    · rename_i h1
      have e1 := scal_slots h1
      simp only [eff, Option.some.injEq] at h; subst h; subst e1
      unfold lenE; rw [hk]; simp only [scal_congr hg, h1, eff]
    · cases h
  · rename_i hk
    split at h
    all_goals first
      | (cases h; done)
      | (rename_i h1
         simp only [eff, Option.some.injEq] at h; subst h
         unfold lenE; rw [hk]; simp only [sliceOf_slots h1 hg, eff])
  · rename_i hk
    split at h
    · rename_i h1
      have e1 := plainOf_slots h1
      simp only [eff, Option.some.injEq] at h; subst h; subst e1
      unfold lenE; rw [hk]; simp only [plainOf_congr hg, h1, eff]
    · cases h
  · cases h
theorem append_local {t : TypeId} {x y : Operand} (h : appendE T g t x y = some e) (hg : Agree g g' e.rd) : appendE T g' t x y = some e := by
  have : (∀ s ∈ opSlots x, s ∈ e.rd) ∧ (∀ s ∈ opSlots y, s ∈ e.rd) := by
    unfold appendE at h
    split at h
    · rename_i h1 h2
      have e1 := src_slots h1; have e2 := plainOf_slots h2
      simp only [cond_eq_ite] at h
      repeat' split at h
      all_goals first
        | (cases h; done)
        | (simp only [effp, Option.some.injEq] at h; subst h; subst e2; rw [← e1]; constructor <;> (intro s hs; first | (simp [hs]; done) | (simp [slots] at hs; done) | (simp [slots] at hs; simp [hs])))
    · cases h
  have e1 := src_congr (hg.mono this.1); have e2 := plainOf_congr (hg.mono this.2)
  unfold appendE at h ⊢
  rw [e1, e2]; exact h
theorem minMax_local {m : Bool} {x y : Operand} (h : minMaxE g m x y = some e) (hg : Agree g g' e.rd) : minMaxE g' m x y = some e := by
  have : (∀ s ∈ opSlots x, s ∈ e.rd) ∧ (∀ s ∈ opSlots y, s ∈ e.rd) := by
    unfold minMaxE at h
    split at h
    · rename_i h1 h2
      have e1 := scal_slots h1; have e2 := scal_slots h2
      simp only [cond_eq_ite] at h
      split at h
      · simp only [eff, Option.some.injEq] at h; subst h; subst e1; subst e2
        constructor <;> (intro s hs; simp [hs])
      · cases h
    · cases h
  have e1 := scal_congr (hg.mono this.1); have e2 := scal_congr (hg.mono this.2)
  unfold minMaxE at h ⊢
  rw [e1, e2]; exact h
theorem copy_local {t : TypeId} {x y : Operand} (h : copyE T g t x y = some e) (hg : Agree g g' e.rd) : copyE T g' t x y = some e := by
  unfold copyE at h
  split at h
  · rename_i et rx r sz n f ry sz' m k hk hx hy
    simp only [cond_eq_ite] at h
    split at h
    · rename_i hq
      have hrd : e.rd = rx ++ ry := by simp only [Option.some.injEq] at h; subst h; rfl
      rw [hrd] at hg
      have e2 := plainOf_slots hy
      have h1 := sliceOf_slots hx (hg.mono fun s hs => by simp [hs])
      have h2 := plainOf_congr (x := y) (hg.mono fun s hs => by rw [e2]; simp [hs])
      unfold copyE
      rw [hk, h1, h2, hy]
      simp only [cond_eq_ite, if_pos hq]
      exact h
    · cases h
  · cases h
theorem builtin_local {b : Builtin} {ts : List TypeId} {xs : List Operand} (h : builtinE T g b ts xs = some e) (hg : Agree g g' e.rd) : builtinE T g' b ts xs = some e := by
  unfold builtinE at h
  split at h
  · exact len_local h hg
  · rename_i t t' x y
    simp only [cond_eq_ite] at h
    split at h
    · rename_i hq
      simp only [builtinE, hq, cond_true]
      exact append_local h hg
    · cases h
  · rename_i t t' x y
    simp only [cond_eq_ite] at h
    split at h
    · rename_i hq
      simp only [builtinE, hq, cond_true]
      exact copy_local h hg
    · cases h
  · exact minMax_local h hg
  · exact minMax_local h hg
  · cases h

theorem makeIfc_local {t : TypeId} {x : Operand} (h : makeIfcE T g t x = some e) (hg : Agree g g' e.rd) : makeIfcE T g' t x = some e := by
  have key : ∀ s ∈ opSlots x, s ∈ e.rd := by
    unfold makeIfcE at h
    split at h
    · cases h
    · cases h
    · split at h
      · rename_i hx; rw [← plainOf_slots hx]; simp only [eff, Option.some.injEq] at h; subst h; exact fun _ h => h
      · cases h
  have e2 := plainOf_congr (hg.mono key)
  unfold makeIfcE at h ⊢; rw [e2]; exact h
theorem range_local {t : TypeId} {x : Operand} (h : rangeE T g t x = some e) (hg : Agree g g' e.rd) : rangeE T g' t x = some e := by
  have key : ∀ s ∈ opSlots x, s ∈ e.rd := by
    unfold rangeE at h
    split at h
    · rename_i hx; rw [← scal_slots hx]; simp only [eff, Option.some.injEq] at h; subst h; exact fun _ h => h
    · cases h
  have e2 := scal_congr (hg.mono key)
  unfold rangeE at h ⊢; rw [e2]; exact h
theorem next_local {x : Operand} {str : Bool} (h : nextE g x str = some e) (hg : Agree g g' e.rd) : nextE g' x str = some e := by
  have key : ∀ s ∈ opSlots x, s ∈ e.rd := by
    unfold nextE at h
    split at h
    · rename_i hx
      rw [← src_slots hx]
      simp only [cond_eq_ite] at h
      split at h
      · simp only [Option.some.injEq] at h; subst h; exact fun _ h => h
      · simp only [eff, Option.some.injEq] at h; subst h; exact fun _ h => h
    · cases h
  have e2 := src_congr (hg.mono key)
  unfold nextE at h ⊢; rw [e2]; exact h
theorem core_local {tk : Bool} {o : Op} (h : core T g tk o = some e) (hg : Agree g g' e.rd) : core T g' tk o = some e := by
  cases o with
  | move x => exact move_local h hg
  | assign x => exact assign_local h hg
  | pick c x y => exact pick_local h hg
  | alloc t => exact h
  | box t x => exact box_local h hg
  | build t ps => exact build_local h hg
  | buildSlice t n ps =>
    simp only [core] at h ⊢
    cases hq : (tk && (Nat.beq n 0 && ps.toList.isEmpty)) with
    | false => rw [hq] at h; exact buildSlice_local h hg
    | true => rw [hq] at h; exact h
  | load t x => exact load_local h hg
  | store t x y => exact store_local h hg
  | nilCheck x => exact nilCheck_local h hg
  | binOp op t x y ty => exact bin_local h hg
  | unOp op t x => exact un_local h hg
  | convert s t x => exact conv_local h hg
  | makeSlice t l c => exact makeSlice_local h hg
  | slice t x lo hi mx =>
    cases mx with
    | none => exact slice_local h hg
    | some m => simp [core] at h
  | fieldAddr t x i => exact fieldAddr_local h hg
  | indexAddr t x i => exact indexAddr_local h hg
  | index t x i => exact index_local h hg
  | extract x i => exact extract_local h hg
  | makeInterface t x => exact makeIfc_local h hg
  | range t x => exact range_local h hg
  | next x str => exact next_local h hg
  | call c =>
    obtain ⟨callee, args, ts⟩ := c
    cases callee with
    | builtin b => exact builtin_local h hg
    | value f => simp [core] at h
    | invoke r m => simp [core] at h
  | _ => simp [core] at h
end Go.X
