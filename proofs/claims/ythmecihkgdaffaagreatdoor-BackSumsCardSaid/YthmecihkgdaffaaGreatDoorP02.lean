/- Part 2 of the proof of BackSums: How a state is kept: a slot written, owners taken over, a new block, a world that grew, a row written in place. The table of types, operands, and the operations one by one: what the machine does is what the abstract machine says. The operations: moves, choices, variables, arithmetic, tuples. No conditions but those that each theorem names. -/
import Derived.Test.YthmecihkgdaffaaGreatDoorP01
import Derived.ChangeKeysEq
import Derived.Laws.Entries
import Derived.Laws.StructEq
namespace Go.X
open Go

theorem atRoot_congr {g g' : Lk} {r : Root} (h : g' r.s = g r.s) : atRoot g' r = atRoot g r := by unfold atRoot; rw [h]
theorem rootV_congr {a a' : Act} {w : World} {r : Root} (h : a'.tmps[r.s]? = a.tmps[r.s]?) : rootV a' w r = rootV a w r := by unfold rootV; rw [h]

/-- the condition of Refs.keep, of states that part nowhere but at one slot whose version grows -/
theorem refs_put {g : Lk} {a : Act} {w : World} {d : Nat} {x : S} {v : Value} (hd : d < a.tmps.size) :
    ∀ s k y, g s = some (k, y) → ∃ k' y', lkPut g d x s = some (k', y') ∧ k ≤ k' ∧ (k' = k → (a.put (some d) v).tmps[s]? = a.tmps[s]? ∧ (∀ t cs', y' = .box t cs' → ∃ cs, y = .box t cs)
      ∧ (∀ c k0, isOwnO (atRoot (lkPut g d x) ⟨s, k0, c⟩) = true → k0 = k → ∃ sz n f f', atRoot g ⟨s, k0, c⟩ = some (.own sz n f) ∧ atRoot (lkPut g d x) ⟨s, k0, c⟩ = some (.own sz n f') ∧ rootV (a.put (some d) v) w ⟨s, k0, c⟩ = rootV a w ⟨s, k0, c⟩)) := by
  intro s k y hy
  by_cases hs : s = d
  · subst hs
    refine ⟨k + 1, x, by simp [lkPut, hy], by omega, fun h => by omega⟩
  · have hg : lkPut g d x s = g s := by simp [lkPut, hs]
    refine ⟨k, y, by rw [hg, hy], Nat.le_refl _, fun _ => ⟨by rw [put_get _ _ _ _ hd, if_neg hs], fun t cs' h => ⟨cs', h⟩, fun c k0 ho _ => ?_⟩⟩
    rw [atRoot_congr (r := ⟨s, k0, c⟩) hg] at ho ⊢
    rw [rootV_congr (a := a) (a' := a.put (some d) v) (w := w) (r := ⟨s, k0, c⟩) (by rw [put_get _ _ _ _ hd, if_neg hs])]
    cases hat : atRoot g ⟨s, k0, c⟩ with
    | none => rw [hat] at ho; simp [isOwnO] at ho
    | some cc =>
      cases cc with
      | own sz n f => exact ⟨sz, n, f, f, rfl, rfl, rfl⟩
      | d x => rw [hat] at ho; simp [isOwnO] at ho
      | app sz n f => rw [hat] at ho; simp [isOwnO] at ho

/-- A slot is written. pb: the blocks that the new content owns; no other slot owns them. -/
theorem SimW.put {cx : Cx} {h : Hp} {bs : Nat → List Nat} {g : Lk} {a : Act} {w : World} (M : SimW cx h bs g a w) {d : Nat} {x : S} {v : Value} {pb : List Nat}
    (hd : d < cx.n) (hp : cx.pin d = none) (ht : Tells h w x v pb) (hr : Refs g a w x v) (hn : pb.Nodup) (hdj : ∀ s, s ≠ d → ∀ b, b ∈ pb → b ∈ bs s → False)
    (hm : ∀ b ∈ pb, cx.w0.heap.size ≤ b ∨ b ∈ cx.lb) (hl : ∀ b ∈ pb, b < w.heap.size) :
    SimW cx h (fun s => if s = d then pb else bs s) (lkPut g d x) (a.put (some d) v) w := by
  have hsz : d < a.tmps.size := by rw [M.size]; exact hd
  refine ⟨M.le, M.newc, M.newg, M.holds, M.fr, M.defers, by simp [Act.put, M.size], ?_, ?_, ?_, ?_, ?_, ?_⟩
  · intro s k y hy
    by_cases hs : s = d
    · subst hs
      simp only [lkPut, if_true] at hy
      have hy2 : y = x := by
        split at hy <;> (injection hy with hy; injection hy with _ hy; exact hy.symm)
      subst hy2
      refine ⟨v, by rw [put_get _ _ _ _ hsz, if_pos rfl], by simpa using ht, hr.keep (refs_put hsz)⟩
    · have hg : lkPut g d x s = g s := by simp [lkPut, hs]
      rw [hg] at hy
      obtain ⟨u, hu, htu, hru⟩ := M.slot s k y hy
      refine ⟨u, by rw [put_get _ _ _ _ hsz, if_neg hs]; exact hu, by simpa [hs] using htu, hru.keep (refs_put hsz)⟩
  · intro s
    by_cases hs : s = d
    · simpa [hs] using hn
    · simpa [hs] using M.nodup s
  · intro s t hst b hb1 hb2
    by_cases hs : s = d
    · subst hs
      simp only [if_true] at hb1
      rw [if_neg (Ne.symm hst)] at hb2
      exact hdj t (Ne.symm hst) b hb1 hb2
    · rw [if_neg hs] at hb1
      by_cases htd : t = d
      · subst htd
        simp only [if_true] at hb2
        exact hdj s hs b hb2 hb1
      · rw [if_neg htd] at hb2
        exact M.disj s t hst b hb1 hb2
  · intro s b hb
    by_cases hs : s = d
    · subst hs; simp only [if_true] at hb; exact hm b hb
    · rw [if_neg hs] at hb; exact M.mine s b hb
  · intro s b hb
    by_cases hs : s = d
    · subst hs; simp only [if_true] at hb; exact hl b hb
    · rw [if_neg hs] at hb; exact M.lt s b hb
  · intro s u hu
    have hs : s ≠ d := fun e => by rw [e, hp] at hu; cases hu
    rw [put_get _ _ _ _ hsz, if_neg hs]
    exact M.pins s u hu

/-- the condition of Refs.keep for a slot that is told anew in place, in which no root is owned that was not -/
theorem refs_mod {g : Lk} {a : Act} {w : World} {q : Nat} {x : S} {k1 : Nat} {y1 : S} (hq : g q = some (k1, y1)) (hbx : ∀ t cs', x = .box t cs' → ∃ cs, y1 = .box t cs)
    (hown : ∀ c, isOwnO (atRoot (lkMod g q x) ⟨q, k1, c⟩) = true → atRoot (lkMod g q x) ⟨q, k1, c⟩ = atRoot g ⟨q, k1, c⟩) :
    ∀ s k y, g s = some (k, y) → ∃ k' y', lkMod g q x s = some (k', y') ∧ k ≤ k' ∧ (k' = k → a.tmps[s]? = a.tmps[s]? ∧ (∀ t cs', y' = .box t cs' → ∃ cs, y = .box t cs)
      ∧ (∀ c k0, isOwnO (atRoot (lkMod g q x) ⟨s, k0, c⟩) = true → k0 = k → ∃ sz n f f', atRoot g ⟨s, k0, c⟩ = some (.own sz n f) ∧ atRoot (lkMod g q x) ⟨s, k0, c⟩ = some (.own sz n f') ∧ rootV a w ⟨s, k0, c⟩ = rootV a w ⟨s, k0, c⟩)) := by
  intro s k y hy
  have own : ∀ {o : Option C}, isOwnO o = true → ∃ sz n f, o = some (.own sz n f) := by
    intro o ho
    cases o with
    | none => simp [isOwnO] at ho
    | some cc => cases cc with
      | own sz n f => exact ⟨sz, n, f, rfl⟩
      | d x => simp [isOwnO] at ho
      | app sz n f => simp [isOwnO] at ho
  by_cases hs : s = q
  · subst hs
    rw [hq] at hy
    injection hy with hy
    injection hy with e1 e2
    subst e1; subst e2
    refine ⟨k1, x, by simp [lkMod, hq], Nat.le_refl _, fun _ => ⟨rfl, hbx, fun c k0 ho he => ?_⟩⟩
    subst he
    obtain ⟨sz, n, f, hf⟩ := own ho
    exact ⟨sz, n, f, f, by rw [← hown c ho]; exact hf, hf, rfl⟩
  · have hg : lkMod g q x s = g s := by simp [lkMod, hs]
    refine ⟨k, y, by rw [hg, hy], Nat.le_refl _, fun _ => ⟨rfl, fun t cs' h => ⟨cs', h⟩, fun c k0 ho _ => ?_⟩⟩
    obtain ⟨sz, n, f, hf⟩ := own ho
    refine ⟨sz, n, f, f, ?_, hf, rfl⟩
    rw [← atRoot_congr (r := ⟨s, k0, c⟩) hg]; exact hf

/-- A slot is told anew, of the same value and world; it keeps some of its blocks. -/
theorem SimW.mod {cx : Cx} {h : Hp} {bs : Nat → List Nat} {g : Lk} {a : Act} {w : World} (M : SimW cx h bs g a w) {q : Nat} {x : S} {pb : List Nat} {k1 : Nat} {y1 : S} (hq : g q = some (k1, y1))
    (ht : ∀ v, a.tmps[q]? = some v → Tells h w x v pb ∧ Refs g a w x v) (hn : pb.Nodup) (hsub : ∀ b ∈ pb, b ∈ bs q)
    (hbx : ∀ t cs', x = .box t cs' → ∃ cs, y1 = .box t cs) (hown : ∀ c, isOwnO (atRoot (lkMod g q x) ⟨q, k1, c⟩) = true → atRoot (lkMod g q x) ⟨q, k1, c⟩ = atRoot g ⟨q, k1, c⟩) :
    SimW cx h (fun s => if s = q then pb else bs s) (lkMod g q x) a w := by
  refine ⟨M.le, M.newc, M.newg, M.holds, M.fr, M.defers, M.size, ?_, ?_, ?_, ?_, ?_, M.pins⟩
  · intro s k y hy
    by_cases hs : s = q
    · subst hs
      simp only [lkMod, if_true, hq, Option.map_some, Option.some.injEq, Prod.mk.injEq] at hy
      obtain ⟨rfl, rfl⟩ := hy
      obtain ⟨u, hu, _⟩ := M.slot s k1 y1 hq
      obtain ⟨h1, h2⟩ := ht u hu
      exact ⟨u, hu, by simpa using h1, h2.keep (refs_mod hq hbx hown)⟩
    · have hg : lkMod g q x s = g s := by simp [lkMod, hs]
      rw [hg] at hy
      obtain ⟨u, hu, h1, h2⟩ := M.slot s k y hy
      exact ⟨u, hu, by simpa [hs] using h1, h2.keep (refs_mod hq hbx hown)⟩
  · intro s
    by_cases hs : s = q
    · simpa [hs] using hn
    · simpa [hs] using M.nodup s
  · intro s t hst b hb1 hb2
    refine M.disj s t hst b ?_ ?_
    · by_cases hs : s = q
      · subst hs; simp only [if_true] at hb1; exact hsub b hb1
      · rwa [if_neg hs] at hb1
    · by_cases hs : t = q
      · subst hs; simp only [if_true] at hb2; exact hsub b hb2
      · rwa [if_neg hs] at hb2
  · intro s b hb
    by_cases hs : s = q
    · subst hs; simp only [if_true] at hb; exact M.mine s b (hsub b hb)
    · rw [if_neg hs] at hb; exact M.mine s b hb
  · intro s b hb
    by_cases hs : s = q
    · subst hs; simp only [if_true] at hb; exact M.lt s b (hsub b hb)
    · rw [if_neg hs] at hb; exact M.lt s b hb

/-- A slot is told anew, and more is known for good: of blocks that it gives up. -/
theorem SimW.refine {cx : Cx} {h k : Hp} {bs : Nat → List Nat} {g : Lk} {a : Act} {w : World} (M : SimW cx h bs g a w) (hk : h.le k) (hh : k.holds w)
    (hc : ∀ b, b < cx.w0.heap.size → b ∉ cx.lb → ∀ i, k.c b i = h.c b i) (hg0 : ∀ b, k.g b = h.g b) {q : Nat} {x : S} {pb : List Nat} {k1 : Nat} {y1 : S} (hq : g q = some (k1, y1))
    (ht : ∀ v, a.tmps[q]? = some v → Tells k w x v pb ∧ Refs g a w x v) (hn : pb.Nodup) (hsub : ∀ b ∈ pb, b ∈ bs q)
    (hbx : ∀ t cs', x = .box t cs' → ∃ cs, y1 = .box t cs) (hown : ∀ c, isOwnO (atRoot (lkMod g q x) ⟨q, k1, c⟩) = true → atRoot (lkMod g q x) ⟨q, k1, c⟩ = atRoot g ⟨q, k1, c⟩)
    (hs : ∀ s, s ≠ q → Still h k w w (bs s)) :
    SimW cx k (fun s => if s = q then pb else bs s) (lkMod g q x) a w := by
  refine ⟨M.le.trans hk, fun b hb hl i => by rw [hc b hb hl i]; exact M.newc b hb hl i, fun b hb => by rw [hg0 b]; exact M.newg b hb, hh, M.fr, M.defers, M.size, ?_, ?_, ?_, ?_, ?_, M.pins⟩
  · intro s k y hy
    by_cases hs' : s = q
    · subst hs'
      simp only [lkMod, if_true, hq, Option.map_some, Option.some.injEq, Prod.mk.injEq] at hy
      obtain ⟨rfl, rfl⟩ := hy
      obtain ⟨u, hu, _⟩ := M.slot s k1 y1 hq
      obtain ⟨h1, h2⟩ := ht u hu
      exact ⟨u, hu, by simpa using h1, h2.keep (refs_mod hq hbx hown)⟩
    · have hg : lkMod g q x s = g s := by simp [lkMod, hs']
      rw [hg] at hy
      obtain ⟨u, hu, h1, h2⟩ := M.slot s k y hy
      exact ⟨u, hu, by simpa [hs'] using h1.keep hk (hs s hs'), h2.keep (refs_mod hq hbx hown)⟩
  · intro s
    by_cases hs' : s = q
    · simpa [hs'] using hn
    · simpa [hs'] using M.nodup s
  · intro s t hst b hb1 hb2
    refine M.disj s t hst b ?_ ?_
    · by_cases hs' : s = q
      · subst hs'; simp only [if_true] at hb1; exact hsub b hb1
      · rwa [if_neg hs'] at hb1
    · by_cases hs' : t = q
      · subst hs'; simp only [if_true] at hb2; exact hsub b hb2
      · rwa [if_neg hs'] at hb2
  · intro s b hb
    by_cases hs' : s = q
    · subst hs'; simp only [if_true] at hb; exact M.mine s b (hsub b hb)
    · rw [if_neg hs'] at hb; exact M.mine s b hb
  · intro s b hb
    by_cases hs' : s = q
    · subst hs'; simp only [if_true] at hb; exact M.lt s b (hsub b hb)
    · rw [if_neg hs'] at hb; exact M.lt s b hb

/-- The world grows, or changes at gauges and at blocks that are nobody's: what is owned stays. -/
theorem SimW.world' {cx : Cx} {h k : Hp} {bs : Nat → List Nat} {g : Lk} {a : Act} {w w' : World} (M : SimW cx h bs g a w) (pb : Nat → Prop) (hpb : ∀ b, pb b → cx.w0.heap.size ≤ b ∨ b ∈ cx.lb) (hk : h.le k) (hh : k.holds w')
    (hc : ∀ b, b < cx.w0.heap.size → b ∉ cx.lb → ∀ i, k.c b i = h.c b i) (hg : ∀ b, b < cx.w0.heap.size → k.g b = h.g b)
    (hf : Fr w w' fun b => (∃ l, h.g b = some l) ∨ pb b) (hs : ∀ s, Still h k w w' (bs s)) :
    SimW cx k bs g a w' := by
  refine ⟨M.le.trans hk, fun b hb hn i => by rw [hc b hb hn i]; exact M.newc b hb hn i, fun b hb => by rw [hg b hb]; exact M.newg b hb, hh,
    ⟨hf.os.trans M.fr.os, hf.tape.trans M.fr.tape, hf.output.trans M.fr.output, Nat.le_trans M.fr.size hf.size, fun b hb hx => ?_⟩, M.defers, M.size, ?_, M.nodup, M.disj, M.mine, fun s b hb => Nat.lt_of_lt_of_le (M.lt s b hb) hf.size, M.pins⟩
  · rw [hf.block b (Nat.lt_of_lt_of_le hb M.fr.size) (fun hp => hp.elim (fun ⟨l, hl⟩ => hx (.inr ⟨l, by rw [← M.newg b hb]; exact hl⟩)) fun hp => (hpb b hp).elim (fun h => absurd hb (by omega)) fun h => hx (.inl h))]
    exact M.fr.block b hb hx
  · intro s kk x hx
    obtain ⟨v, hv, ht, hr⟩ := M.slot s kk x hx
    refine ⟨v, hv, ht.keep hk (hs s), hr.keep fun s k y hy => ⟨k, y, hy, Nat.le_refl _, fun _ => ⟨rfl, fun t cs' h => ⟨cs', h⟩, fun c k0 ho he => ?_⟩⟩⟩
    subst he
    have hat : ∃ sz n f, atRoot g ⟨s, k0, c⟩ = some (.own sz n f) := by
      cases hat : atRoot g ⟨s, k0, c⟩ with
      | none => rw [hat] at ho; simp [isOwnO] at ho
      | some cc => cases cc with
        | own sz n f => exact ⟨sz, n, f, rfl⟩
        | d x => rw [hat] at ho; simp [isOwnO] at ho
        | app sz n f => rw [hat] at ho; simp [isOwnO] at ho
    obtain ⟨sz, n, f, hat⟩ := hat
    refine ⟨sz, n, f, f, hat, hat, ?_⟩
    cases c with
    | none => rfl
    | some i =>
      obtain ⟨u, hu, htu, _⟩ := M.slot s k0 y hy
      unfold atRoot at hat
      rw [hy] at hat
      simp only [beq_eq, decide_true, cond_true] at hat
      cases y with
      | box t cs =>
        obtain ⟨b, vs, bs', hv, hhb, ho', hbs, hfr⟩ := htu
        subst hv
        unfold rootV
        simp only [hu]
        exact World.cell?_of_block ((hs s).heap b (by rw [hbs]; simp))
      | one ag cs => simp at hat
      | tup xs => simp at hat
      | ref r => simp at hat
      | adr a b c => simp at hat
      | elt a b c => simp at hat
      | imm a b c => simp at hat
      | ifc a b c => simp at hat
      | itr a b => simp at hat
      | bld a b c => simp at hat
      | no => simp at hat

/-- The world grows, or changes at gauges: what is owned stays. -/
theorem SimW.world {cx : Cx} {h k : Hp} {bs : Nat → List Nat} {g : Lk} {a : Act} {w w' : World} (M : SimW cx h bs g a w) (hk : h.le k) (hh : k.holds w')
    (hc : ∀ b, b < cx.w0.heap.size → b ∉ cx.lb → ∀ i, k.c b i = h.c b i) (hg : ∀ b, b < cx.w0.heap.size → k.g b = h.g b)
    (hf : Fr w w' fun b => ∃ l, h.g b = some l) (hs : ∀ s, Still h k w w' (bs s)) :
    SimW cx k bs g a w' :=
  M.world' (fun _ => False) (fun _ h => h.elim) hk hh hc hg ⟨hf.os, hf.tape, hf.output, hf.size, fun b hb hx => hf.block b hb fun h => hx (.inl h)⟩ hs

/-- cells known for good of one new block -/
def Hp.ext (h : Hp) (b : Nat) (f : Nat → Option Value) : Hp := { h with c := fun b' i => if b' = b then f i else h.c b' i }
theorem Hp.ext_le {h : Hp} {w : World} (hw : h.holds w) (f : Nat → Option Value) : h.le (h.ext w.heap.size f) := by
  refine ⟨fun b i v hv => ?_, fun b l hl => hl⟩
  have := hw.lt hv
  simp only [Hp.ext]
  rw [if_neg (by omega)]
  exact hv

/-- A new block. -/
theorem SimW.alloc {cx : Cx} {h : Hp} {bs : Nat → List Nat} {g : Lk} {a : Act} {w : World} (M : SimW cx h bs g a w) (vs : Array Value) (t : TypeId) (f : Nat → Option Value)
    (hf : ∀ i v, f i = some v → vs[i]? = some v) : SimW cx (h.ext w.heap.size f) bs g a (w.alloc (.cells vs t)) := by
  have hlt := M.fr.size
  refine M.world (Hp.ext_le M.holds f) ⟨fun b i v hv => ?_, fun b l hl => ?_, fun b l i hl => ?_⟩ (fun b hb _ i => ?_) (fun b hb => rfl) ⟨rfl, rfl, rfl, by simp, fun b hb _ => heap_alloc_old w _ b hb⟩ fun s => ⟨fun b hb => heap_alloc_old w _ b (M.lt s b hb), fun b hb i => ?_, fun b hb => rfl⟩
  · simp only [Hp.ext] at hv
    by_cases hb : b = w.heap.size
    · subst hb
      rw [if_pos rfl] at hv
      rw [World.cell?_alloc_new]
      exact hf i v hv
    · rw [if_neg hb] at hv
      have := M.holds.c b i v hv
      rw [World.cell?_alloc_old w _ ⟨b, i, none⟩ hb]
      exact this
  · obtain ⟨x, y, T, he⟩ := M.holds.g b l hl
    exact ⟨x, y, T, by rw [heap_alloc_old w _ b (M.holds.ltg hl)]; exact he⟩
  · have := M.holds.ltg (b := b) (l := l) hl
    simp only [Hp.ext]
    rw [if_neg (by omega)]
    exact M.holds.ap b l i hl
  · simp only [Hp.ext]; rw [if_neg (by omega)]
  · have := M.lt s b hb
    simp only [Hp.ext]; rw [if_neg (by omega)]
theorem SimW.drew {cx : Cx} {h : Hp} {bs : Nat → List Nat} {g : Lk} {a : Act} {w : World} (M : SimW cx h bs g a w) : SimW cx h bs g a w.drew :=
  M.world (Hp.le.refl h) ⟨M.holds.c, M.holds.g, M.holds.ap⟩ (fun _ _ _ _ => rfl) (fun _ _ => rfl) ⟨rfl, rfl, rfl, Nat.le_refl _, fun _ _ _ => rfl⟩ fun _ => ⟨fun _ _ => rfl, fun _ _ _ => rfl, fun _ _ => rfl⟩
end Go.X
namespace Go.X
open Go

def cval : C → Value
  | .d (.v x) => x
  | _ => .slice none 0 0
def zeroOk : C → Bool
  | .d (.v x) => oneB x
  | .app _ n _ => Nat.beq n 0
  | _ => false
def UnderOk (P : Program) (t : TypeId) : TyK → Prop
  | .bool => P.underlying t = some .bool
  | .int k => P.underlying t = some (.int k)
  | .str => P.underlying t = some .string
  | .sl e => P.underlying t = some (.slice e)
  | .arr n e => P.underlying t = some (.array n e)
  | .strct fs => ∃ fields, P.underlying t = some (.struct fields) ∧ fs = fields.toList.map fun f => (f.type, f.offset)
  | .ptr => ∃ e, P.underlying t = some (.pointer e)
  | .iface => ∃ ms, P.underlying t = some (.interface ms)
  | .other => False
def mkI (p : IntKind × Int) : Value := .int p.1 p.2
/-- structs and arrays of whole numbers, compared -/
def EqOk (P : Program) (t : TypeId) (n : Nat) : Prop :=
  ∀ (xs ys : List (IntKind × Int)) (w : World), xs.length = n → ys.map Prod.fst = xs.map Prod.fst →
    (∀ op x y, (eqGuard op t x y (.agg (xs.map mkI).toArray) (.agg (ys.map mkI).toArray)).run P w = .ok () w) ∧
    (Op.equal t (.agg (xs.map mkI).toArray) (.agg (ys.map mkI).toArray)).run P w = .ok (decide (xs = ys)) w
structure TyOk (P : Program) (T : Tab) (t : TypeId) : Prop where
  eq : (T t).eqs = true → EqOk P t (T t).size
  info : ∃ ti, P.info? t = some ti ∧ ti.size = (T t).size ∧ ti.bytes = (T t).bytes ∧ ti.zero = some (mkV (aggK (T t).k) ((T t).zero.map cval))
  zl : (T t).zero.length = (T t).size
  zo : (T t).zero.all zeroOk = true
  one : aggK (T t).k = false → (T t).size = 1
  under : UnderOk P t (T t).k
  pos : (T t).size ≠ 0
def TabOk (P : Program) (T : Tab) : Prop := ∀ t, T t = dflt ∨ TyOk P T t

theorem TabOk.kn {P : Program} {T : Tab} (hT : TabOk P T) {t : TypeId} (h : kn T t = true) : TyOk P T t := by
  rcases hT t with hd | h1
  · rw [X.kn, hd] at h; simp [dflt] at h
  · exact h1
theorem TabOk.sl {P : Program} {T : Tab} (hT : TabOk P T) {t : TypeId} {e : TypeId} (h : (T t).k = .sl e) : P.underlying t = some (.slice e) ∧ TyOk P T t := by
  rcases hT t with hd | h1
  · rw [hd] at h; simp [dflt] at h
  · have := h1.under; rw [h] at this; exact ⟨this, h1⟩
theorem TabOk.k {P : Program} {T : Tab} (hT : TabOk P T) {t : TypeId} (h : (T t).k ≠ .other) : TyOk P T t := by
  rcases hT t with hd | h1
  · rw [hd] at h; simp [dflt] at h
  · exact h1

section
variable {P : Program} {T : Tab} {t : TypeId}
theorem TyOk.sizeOf (h : TyOk P T t) (w : World) : (sizeOf t).run P w = .ok (T t).size w := by
  obtain ⟨ti, h1, h2, _⟩ := h.info
  simp [Go.sizeOf, typeInfo, h1, h2]
theorem TyOk.isAgg (h : TyOk P T t) (w : World) : (isAgg t).run P w = .ok (aggK (T t).k) w := by
  have hu := h.under
  unfold Go.isAgg
  cases hk : (T t).k with
  | bool => rw [hk] at hu; simp [run_underlying hu, aggK]
  | int k => rw [hk] at hu; simp [run_underlying hu, aggK]
  | str => rw [hk] at hu; simp [run_underlying hu, aggK]
  | sl e => rw [hk] at hu; simp [run_underlying hu, aggK]
  | arr n e => rw [hk] at hu; simp [run_underlying hu, aggK]
  | strct fs => rw [hk] at hu; obtain ⟨fl, hu, _⟩ := hu; simp [run_underlying hu, aggK]
  | ptr => rw [hk] at hu; obtain ⟨fl, hu⟩ := hu; simp [run_underlying hu, aggK]
  | iface => rw [hk] at hu; obtain ⟨fl, hu⟩ := hu; simp [run_underlying hu, aggK]
  | other => rw [hk] at hu; exact hu.elim
theorem TyOk.zeroValue (h : TyOk P T t) (w : World) : (zeroValue t).run P w = .ok (mkV (aggK (T t).k) ((T t).zero.map cval)) w := by
  obtain ⟨ti, h1, _, _, h4⟩ := h.info
  simp [Go.zeroValue, typeInfo, h1, h4]
end
theorem oneB_eq (v : Value) : oneB v = v.oneCell' := by cases v <;> rfl
theorem mkV_cells {ag : Bool} {vs : List Value} (h1 : ag = false → vs.length = 1) (ho : ∀ v ∈ vs, v.oneCell' = true) : (mkV ag vs).cells.toList = vs := by
  cases ag with
  | true => simp [mkV, Value.cells]
  | false =>
    have := h1 rfl
    match vs, this, ho with
    | [v], _, ho =>
      have hv := ho v (by simp)
      simp only [mkV, cond_false, List.headD_cons]
      cases v <;> first | (simp [Value.oneCell'] at hv; done) | simp [Value.cells]
theorem zero_own {h : Hp} {w : World} : ∀ {cs : List C}, cs.all zeroOk = true → OwnCs h w cs (cs.map cval) []
  | [], _ => ⟨rfl, rfl⟩
  | c :: cs, ho => by
    simp only [List.all_cons, Bool.and_eq_true] at ho
    refine ⟨cval c, cs.map cval, [], [], rfl, rfl, ?_, zero_own ho.2⟩
    have h1 := ho.1
    cases c with
    | d x => cases x with
      | v x => exact ⟨⟨rfl, by rw [← oneB_eq]; exact h1⟩, rfl⟩
      | sf sz n f => simp [zeroOk] at h1
      | ga l => simp [zeroOk] at h1
    | own sz n f => simp [zeroOk] at h1
    | app sz n f => exact .inl ⟨rfl, Nat.eq_of_beq_eq_true h1, rfl⟩

/-! ### operands -/
def ownerBs (bs : Nat → List Nat) : Option Nat → List Nat
  | some s => bs s
  | none => []
theorem src_tells {cx : Cx} {h : Hp} {bs : Nat → List Nat} {g : Lk} {a : Act} {w : World} (M : SimW cx h bs g a w) {x : Operand} {sx : Option Nat} {k : Nat} {y : X.S} (hx : src g x = some (sx, k, y)) :
    Tells h w y (a.eval x) (ownerBs bs sx) ∧ Refs g a w y (a.eval x) ∧ (∀ s, sx = some s → g s = some (k, y) ∧ a.tmps[s]? = some (a.eval x)) := by
  cases x with
  | tmp t =>
    simp only [src] at hx
    cases hg : g t with
    | none => rw [hg] at hx; cases hx
    | some p =>
      obtain ⟨k', y'⟩ := p
      rw [hg] at hx
      injection hx with hx
      injection hx with h1 h2
      injection h2 with h2 h3
      subst h1; subst h2; subst h3
      obtain ⟨v, hv, ht, hr⟩ := M.slot t k' y' hg
      have he : a.eval (.tmp t) = v := by simp [Act.eval, hv]
      rw [he]
      exact ⟨ht, hr, fun s hs => by injection hs with hs; subst hs; exact ⟨hg, hv⟩⟩
  | const v =>
    simp only [src] at hx
    cases hb : oneB v with
    | false => rw [hb] at hx; simp at hx
    | true =>
      rw [hb] at hx
      simp only [cond_true, Option.some.injEq, Prod.mk.injEq] at hx
      obtain ⟨rfl, rfl, rfl⟩ := hx
      refine ⟨⟨[v], ⟨v, [], [], [], rfl, rfl, ?_, ⟨rfl, rfl⟩⟩, by simp [mkV, Act.eval], fun _ => rfl⟩, trivial, fun s hs => by cases hs⟩
      rw [oneB_eq] at hb
      unfold cst
      split
      · exact .inl ⟨rfl, rfl, rfl⟩
      · exact ⟨⟨rfl, hb⟩, rfl⟩
  | global g' => simp [src] at hx
  | func f => simp [src] at hx
theorem own_one {h : Hp} {w : World} {c : C} {v : Value} {b : List Nat} (ht : Tells h w (.one false [c]) v b) : OwnC h w c v b := by
  obtain ⟨vs, ⟨u, vs', b1, b2, rfl, rfl, h1, rfl, rfl⟩, rfl, _⟩ := ht
  simpa [mkV] using h1
theorem one_own {h : Hp} {w : World} {c : C} {v : Value} {b : List Nat} (hc : OwnC h w c v b) : Tells h w (.one false [c]) v b :=
  ⟨[v], ⟨v, [], b, [], rfl, by simp, hc, rfl, rfl⟩, by simp [mkV], fun _ => rfl⟩
theorem scal_val {cx : Cx} {h : Hp} {bs : Nat → List Nat} {g : Lk} {a : Act} {w : World} (M : SimW cx h bs g a w) {x : Operand} {r : List Nat} {v : Value} (hx : scal g x = some (r, v)) : a.eval x = v ∧ v.oneCell' = true := by
  simp only [scal] at hx
  split at hx
  · rename_i s k v' hs
    injection hx with hx
    injection hx with _ hx
    subst hx
    obtain ⟨ht, _, _⟩ := src_tells M hs
    have := (own_one ht).1
    exact ⟨this.1, this.2⟩
  · cases hx
/-- an operand's cells as plain data -/
theorem plainOf_tells {cx : Cx} {h : Hp} {bs : Nat → List Nat} {g : Lk} {a : Act} {w : World} (M : SimW cx h bs g a w) {x : Operand} {r : List Nat} {ag : Bool} {cs : List C} (hx : plainOf g x = some (r, ag, cs)) :
    ∃ vs, OwnCs h w cs vs [] ∧ a.eval x = mkV ag vs ∧ (ag = false → vs.length = 1) := by
  simp only [plainOf] at hx
  split at hx
  · rename_i s k ag' cs' hs
    obtain ⟨ht, _, _⟩ := src_tells M hs
    cases ho : cs'.any C.isOwn with
    | true => rw [ho] at hx; simp at hx
    | false =>
      rw [ho] at hx
      simp only [cond_false, Option.some.injEq, Prod.mk.injEq] at hx
      obtain ⟨_, rfl, rfl⟩ := hx
      obtain ⟨vs, h1, h2, h3⟩ := ht
      exact ⟨vs, h1.view ho, h2, fun e => by rw [h1.length]; exact h3 e⟩
  · cases hx

/-! ### the end of a step -/
structure DstOk (cx : Cx) (d : Option Tmp) : Prop where
  lt : ∀ t, d = some t → t < cx.n
  pin : ∀ t, d = some t → cx.pin t = none
theorem SimW.fin {cx : Cx} {h : Hp} {bs : Nat → List Nat} {g : Lk} {a : Act} {w : World} (M : SimW cx h bs g a w) {d : Option Tmp} (hd : DstOk cx d) {x : X.S} {v : Value} {pb : List Nat}
    (ht : Tells h w x v pb) (hr : Refs g a w x v) (hn : pb.Nodup) (hdj : ∀ s, d ≠ some s → ∀ b, b ∈ pb → b ∈ bs s → False)
    (hm : ∀ b ∈ pb, cx.w0.heap.size ≤ b ∨ b ∈ cx.lb) (hl : ∀ b ∈ pb, b < w.heap.size) : Sim cx (lkDst g d x) (a.put d v) w := by
  cases d with
  | none => exact ⟨h, bs, M⟩
  | some d => exact ⟨h, _, M.put (hd.lt d rfl) (hd.pin d rfl) ht hr hn (fun s hs b h1 h2 => hdj s (fun e => hs (by injection e with e; exact e.symm)) b h1 h2) hm hl⟩
theorem SimW.fin0 {cx : Cx} {h : Hp} {bs : Nat → List Nat} {g : Lk} {a : Act} {w : World} (M : SimW cx h bs g a w) {d : Option Tmp} (hd : DstOk cx d) {x : X.S} {v : Value}
    (ht : Tells h w x v []) (hr : Refs g a w x v) : Sim cx (lkDst g d x) (a.put d v) w :=
  M.fin hd ht hr List.nodup_nil (fun _ _ b hb => by cases hb) (fun b hb => by cases hb) (fun b hb => by cases hb)
theorem Refs.of_plain {g : Lk} {a : Act} {w : World} {x : X.S} {v : Value} (h : match x with | .one .. | .tup .. | .box .. | .imm .. | .no => True | _ => False) : Refs g a w x v := by
  cases x <;> first | trivial | exact h.elim
/-- a slot's content goes over whole, or in part: what stays in the slot is told of the same value -/
theorem SimW.take {cx : Cx} {h : Hp} {bs : Nat → List Nat} {g : Lk} {a : Act} {w : World} (M : SimW cx h bs g a w) {d : Option Tmp} (hd : DstOk cx d) {q k : Nat} {y y' x : X.S} {v : Value} (hq : g q = some (k, y))
    (ht' : ∀ u, a.tmps[q]? = some u → Tells h w y' u [] ∧ Refs g a w y' u) (hbx : ∀ t cs', y' = .box t cs' → ∃ cs, y = .box t cs)
    (hown : ∀ c, isOwnO (atRoot (lkMod g q y') ⟨q, k, c⟩) = true → atRoot (lkMod g q y') ⟨q, k, c⟩ = atRoot g ⟨q, k, c⟩)
    (ht : Tells h w x v (bs q)) (hr : Refs (lkMod g q y') a w x v) : Sim cx (lkDst (lkMod g q y') d x) (a.put d v) w := by
  have M1 := M.mod hq (pb := []) ht' List.nodup_nil (fun b hb => by cases hb) hbx hown
  refine M1.fin hd ht hr (M.nodup q) (fun s _ b h1 h2 => ?_) (fun b hb => M.mine q b hb) (fun b hb => M.lt q b hb)
  by_cases hs : s = q
  · rw [if_pos hs] at h2; cases h2
  · rw [if_neg hs] at h2; exact M.disj q s (Ne.symm hs) b h1 h2
theorem noOwn_no {g : Lk} {q k : Nat} {c : Option Nat} : isOwnO (atRoot (lkMod g q .no) ⟨q, k, c⟩) = false := by
  unfold atRoot lkMod
  cases hg : g q with
  | none => simp [isOwnO]
  | some p =>
    simp only [if_true, Option.map_some]
    cases hb : Nat.beq p.1 k <;> cases c <;> simp [isOwnO]
theorem noOwn_d {g : Lk} {q k : Nat} {c : Option Nat} {x : D} : isOwnO (atRoot (lkMod g q (oneD x)) ⟨q, k, c⟩) = false := by
  unfold atRoot lkMod oneD
  cases hg : g q with
  | none => simp [isOwnO]
  | some p =>
    simp only [if_true, Option.map_some]
    cases hb : Nat.beq p.1 k <;> cases c <;> simp [isOwnO]

/-- What is to be shown of an operation. -/
def Good (cx : Cx) (g : Lk) (o : Oper) (e : Eff) : Prop :=
  ∀ a w, Sim cx g a w → ∃ nx w' v, (execOp a.eval o).run cx.P w = .ok nx w' ∧ (nx = .value v ∨ (nx = .skip ∧ v = undef)) ∧ Sim cx (upon g e o.dst) (a.put o.dst v) w'
theorem good_value {cx : Cx} {g : Lk} {o : Oper} {rd : List Nat} {x : X.S} {p : Prop} (hd : DstOk cx o.dst)
    (h : ∀ a w h bs, SimW cx h bs g a w → ∃ v, (execOp a.eval o).run cx.P w = .ok (.value v) w ∧ Tells h w x v [] ∧ Refs g a w x v) : Good cx g o { rd, md := [], res := x, pre := p } := by
  rintro a w ⟨h1, bs, M⟩
  obtain ⟨v, hr, ht, hf⟩ := h a w h1 bs M
  exact ⟨_, w, v, hr, .inl rfl, M.fin0 hd ht hf⟩
end Go.X
namespace Go.X
open Go
variable {cx : Cx} {g : Lk} {o : Oper} {e : Eff}

theorem tells_nil_of_all {h : Hp} {w : World} {ag : Bool} {cs : List C} {v : Value} {bs : List Nat} (ht : Tells h w (.one ag cs) v bs) (ha : cs.all C.isD = true) : bs = [] ∧ Tells h w (.one ag cs) v [] := by
  obtain ⟨vs, h1, h2, h3⟩ := ht
  have := h1.plainBs ha
  subst this
  exact ⟨rfl, vs, h1, h2, h3⟩
theorem tup_nil_of_all {h : Hp} {w : World} : ∀ {xs : List (Bool × List C)} {vs : List Value} {bs : List Nat}, TupTells h w xs vs bs → xs.all plainP = true → bs = []
  | [], _, _, hr, _ => hr.2
  | (ag, cs) :: xs, _, _, ⟨v, vs', b1, b2, _, hb, h1, h2⟩, ha => by
    simp only [List.all_cons, Bool.and_eq_true] at ha
    rw [hb, tup_nil_of_all h2 ha.2]
    rcases h1 with ⟨_, h1⟩ | ⟨us, h1, _, _⟩
    · rw [h1]; rfl
    · rw [h1.plainBs ha.1]; rfl

/-- a copy, or what goes over, of an operand: for move and assign -/
theorem good_copy (hd : DstOk cx o.dst) {x : Operand} {tk : Bool} (hx : ∀ ev : Operand → Value, execOp ev o = pure (.value (ev x))) (hc : moveE g tk x = some e) : Good cx g o e := by
  rintro a w ⟨h, bs, M⟩
  have hrun : (execOp a.eval o).run cx.P w = .ok (.value (a.eval x)) w := by rw [hx]; rfl
  suffices hs : Sim cx (upon g e o.dst) (a.put o.dst (a.eval x)) w from ⟨_, w, _, hrun, .inl rfl, hs⟩
  unfold moveE at hc
  cases hs : src g x with
  | none => rw [hs] at hc; simp at hc
  | some p =>
    obtain ⟨sx, k, y⟩ := p
    obtain ⟨ht, hr, hsl⟩ := src_tells M hs
    rw [hs] at hc
    cases sx with
    | none =>
      simp only [eff, Option.some.injEq] at hc
      subst hc
      exact M.fin0 hd ht hr
    | some s =>
      obtain ⟨hg, hv⟩ := hsl s rfl
      cases y with
      | one ag cs =>
        have whole : (bif cs.all C.isD then eff [s] (.one ag cs) else some { rd := [s], md := [(s, .no)], res := .one ag cs, pre := True }) = some e → Sim cx (upon g e o.dst) (a.put o.dst (a.eval x)) w := by
          intro hc
          cases hal : cs.all C.isD with
          | true =>
            rw [hal] at hc
            simp only [cond_true, eff, Option.some.injEq] at hc
            subst hc
            exact M.fin0 hd (tells_nil_of_all ht hal).2 hr
          | false =>
            rw [hal] at hc
            simp only [cond_false, Option.some.injEq] at hc
            subst hc
            exact M.take hd hg (fun u hu => ⟨rfl, trivial⟩) (fun t cs' h => by cases h) (fun c hc => by rw [noOwn_no] at hc; cases hc) ht trivial
        cases ag with
        | true => exact whole hc
        | false =>
          match cs, hc with
          | [], hc => exact whole hc
          | [.d z], hc => exact whole hc
          | [.own sz n f], hc =>
            cases tk with
            | true =>
              simp only [cond_true, Option.some.injEq] at hc
              subst hc
              exact M.take hd hg (fun u hu => ⟨rfl, trivial⟩) (fun t cs' h => by cases h) (fun c hc => by rw [noOwn_no] at hc; cases hc) ht trivial
            | false =>
              simp only [cond_false, eff, Option.some.injEq] at hc
              subst hc
              exact M.fin0 hd rfl ⟨k, _, hg, Nat.le_refl _, fun _ _ => hv⟩
          | [.app sz n f], hc =>
            have hown := (own_one ht)
            have hview : OwnC h w (.d (.sf sz n f)) (a.eval x) [] := hown.view rfl
            cases tk with
            | true =>
              simp only [cond_true, Option.some.injEq] at hc
              subst hc
              exact M.take hd hg (fun u hu => by rw [hv] at hu; injection hu with hu; subst hu; exact ⟨one_own hview, trivial⟩) (fun t cs' h => by cases h) (fun c hc => by rw [noOwn_d] at hc; cases hc) ht trivial
            | false =>
              simp only [cond_false, eff, Option.some.injEq] at hc
              subst hc
              exact M.fin0 hd (one_own hview) trivial
          | c1 :: _ :: _, hc => cases c1 <;> exact whole hc
      | tup xs =>
        simp only at hc
        cases hal : xs.all plainP with
        | true =>
          rw [hal] at hc
          simp only [cond_true, eff, Option.some.injEq] at hc
          subst hc
          obtain ⟨vs, hvs, h1⟩ := ht
          have := tup_nil_of_all h1 hal
          simp only [ownerBs] at this h1
          rw [this] at h1
          exact M.fin0 hd ⟨vs, hvs, h1⟩ trivial
        | false =>
          rw [hal] at hc
          simp only [cond_false, Option.some.injEq] at hc
          subst hc
          exact M.take hd hg (fun u hu => ⟨rfl, trivial⟩) (fun t cs' h => by cases h) (fun c hc => by rw [noOwn_no] at hc; cases hc) ht trivial
      | box t cs =>
        simp only [eff, Option.some.injEq] at hc
        subst hc
        exact M.fin0 hd rfl ⟨k, _, hg, Nat.le_refl _, fun _ _ => hv⟩
      | bld t e' l =>
        simp only [eff, Option.some.injEq] at hc
        subst hc
        exact M.fin0 hd rfl ⟨k, _, hg, Nat.le_refl _, fun _ _ => hv⟩
      | ifc t ag cs => cases hc
      | itr s p => cases hc
      | ref r => simp only [eff, Option.some.injEq] at hc; subst hc; exact M.fin0 hd rfl hr
      | adr t k' o' => simp only [eff, Option.some.injEq] at hc; subst hc; exact M.fin0 hd rfl hr
      | elt r j o' => simp only [eff, Option.some.injEq] at hc; subst hc; exact M.fin0 hd rfl hr
      | imm sz o' e' => simp only [eff, Option.some.injEq] at hc; subst hc; exact M.fin0 hd ⟨rfl, ht.2⟩ hr
      | no => cases hc

theorem good_move (hd : DstOk cx o.dst) {x : Operand} {tk : Bool} (ho : o.op = .move x) (hc : moveE g tk x = some e) : Good cx g o e :=
  good_copy (tk := tk) hd (fun ev => by simp [execOp, ho]) hc
theorem good_assign (hd : DstOk cx o.dst) {x : Operand} (ho : o.op = .assign x) (hc : assignE g x = some e) : Good cx g o e := by
  have hx : ∀ ev : Operand → Value, execOp ev o = pure (.value (ev x)) := fun ev => by simp [execOp, ho]
  unfold assignE at hc
  split at hc
  · rename_i s k sz n f hs
    refine good_copy (tk := true) hd hx ?_
    unfold moveE; rw [hs]; exact hc
  · rename_i s k sz n f hs
    refine good_copy (tk := true) hd hx ?_
    unfold moveE; rw [hs]; exact hc
  · rename_i s k t cs hs
    injection hc with hc
    subst hc
    rintro a w ⟨h, bs, M⟩
    obtain ⟨ht, hr, hsl⟩ := src_tells M hs
    obtain ⟨hg, hv⟩ := hsl s rfl
    refine ⟨_, w, _, by rw [hx]; rfl, .inl rfl, ?_⟩
    exact M.take hd hg (fun u hu => ⟨rfl, trivial⟩) (fun t cs' h => by cases h) (fun c hc => by rw [noOwn_no] at hc; cases hc) ht trivial
  · exact good_copy (tk := false) hd hx hc

theorem oneD_tells {h : Hp} {w : World} {v : Value} (hv : v.oneCell' = true) : Tells h w (oneD (.v v)) v [] := one_own ⟨⟨rfl, hv⟩, rfl⟩
theorem good_pick (hd : DstOk cx o.dst) {c x y : Operand} (ho : o.op = .pick c x y) (hc : pickE g c x y = some e) (hp : e.pre) : Good cx g o e := by
  have hrun : ∀ (a : Act) (w : World) (p : Bool), a.eval c = .bool p → (execOp a.eval o).run cx.P w = .ok (.value (if p then a.eval x else a.eval y)) w := by
    intro a w p h
    simp [execOp, ho, asBool, h]
  unfold pickE at hc
  split at hc
  · rename_i r p r1 u r2 v h1 h2 h3
    simp only [eff, Option.some.injEq] at hc
    subst hc
    refine good_value hd fun a w h bs M => ⟨_, hrun a w p (scal_val M h1).1, ?_, trivial⟩
    rw [(scal_val M h2).1, (scal_val M h3).1]
    cases p <;> exact oneD_tells rfl
  · rename_i r p r1 u h1 h2 h3
    split at hc
    · simp only [effp, Option.some.injEq] at hc
      subst hc
      simp only at hp
      subst hp
      refine good_value hd fun a w h bs M => ⟨_, hrun a w true (scal_val M h1).1, ?_, trivial⟩
      rw [if_pos rfl, (scal_val M h2).1]
      exact oneD_tells rfl
    · cases hc
  · rename_i r p r1 u h1 h2 h3
    split at hc
    · simp only [effp, Option.some.injEq] at hc
      subst hc
      simp only at hp
      subst hp
      refine good_value hd fun a w h bs M => ⟨_, hrun a w false (scal_val M h1).1, ?_, trivial⟩
      rw [if_neg (by simp), (scal_val M h3).1]
      exact oneD_tells rfl
    · cases hc
  · cases hc

theorem good_extract (hd : DstOk cx o.dst) {x : Operand} {i : Nat} (ho : o.op = .extract x i) (hc : extractE g x i = some e) : Good cx g o e := by
  unfold extractE at hc
  split at hc
  · rename_i s k xs hs
    cases hi : xs[i]? with
    | none => rw [hi] at hc; cases hc
    | some p =>
      obtain ⟨ag, cs⟩ := p
      rw [hi] at hc
      simp only at hc
      cases hem : cs.isEmpty with
      | true => rw [hem] at hc; simp at hc
      | false =>
      rw [hem] at hc
      simp only [cond_false] at hc
      rintro a w ⟨h, bs, M⟩
      obtain ⟨ht, hr, hsl⟩ := src_tells M hs
      obtain ⟨hg, hv⟩ := hsl s rfl
      obtain ⟨vs, hvs, htt⟩ := ht
      have comp : ∀ {xs : List (Bool × List C)} {vs : List Value} {b : List Nat} {i : Nat}, TupTells h w xs vs b → xs[i]? = some (ag, cs) → ∃ v b1 b2 b3, vs[i]? = some v ∧ b = b1 ++ b2 ++ b3 ∧ ((cs = [] ∧ b2 = []) ∨ CompTells h w ag cs v b2) ∧ TupTells h w (xs.set i (ag, [])) vs (b1 ++ b3) := by
        intro xs
        induction xs with
        | nil => intro vs b i _ hi; simp at hi
        | cons p xs ih =>
          obtain ⟨ag', cs'⟩ := p
          intro vs b i ⟨v, vs', b1, b2, hv, hb, h1, h2⟩ hi
          cases i with
          | zero =>
            simp only [List.getElem?_cons_zero, Option.some.injEq, Prod.mk.injEq] at hi
            obtain ⟨rfl, rfl⟩ := hi
            exact ⟨v, [], b1, b2, by simp [hv], by simp [hb], h1, ⟨v, vs', [], b2, hv, rfl, .inl ⟨rfl, rfl⟩, h2⟩⟩
          | succ i =>
            obtain ⟨u, c1, c2, c3, hu, hbb, hcc, htt⟩ := ih h2 (by simpa using hi)
            exact ⟨u, b1 ++ c1, c2, c3, by simp [hv, hu], by simp [hb, hbb], hcc, ⟨v, vs', b1, c1 ++ c3, hv, by simp, h1, htt⟩⟩
      obtain ⟨v, b1, b2, b3, hvi, hb, hcomp, hrest⟩ := comp htt hi
      have hrun : (execOp a.eval o).run cx.P w = .ok (.value v) w := by
        simp [execOp, ho, Instr.extract, hvs, hvi]
      cases hal : cs.all C.isD with
      | true =>
        rw [hal] at hc
        simp only [cond_true, eff, Option.some.injEq] at hc
        subst hc
        rcases hcomp with ⟨rfl, _⟩ | hcomp
        · simp at hem
        · exact ⟨_, w, v, hrun, .inl rfl, M.fin0 hd (tells_nil_of_all (v := v) hcomp hal).2 trivial⟩
      | false =>
        rw [hal] at hc
        simp only [cond_false, Option.some.injEq] at hc
        subst hc
        rcases hcomp with ⟨rfl, _⟩ | hcomp
        · simp at hal
        · simp only [ownerBs] at hb
          have M1 := M.mod (pb := b1 ++ b3) hg (x := .tup (xs.set i (ag, []))) (fun u hu => by rw [hv] at hu; injection hu with hu; subst hu; exact ⟨⟨vs, hvs, hrest⟩, trivial⟩)
            (by have := M.nodup s; rw [hb] at this; simp only [List.append_assoc] at this; exact (List.nodup_append.1 this |> fun ⟨h1, h2, h3⟩ => List.nodup_append.2 ⟨h1, (List.nodup_append.1 h2).2.1, fun x hx y hy => h3 x hx y (by simp [hy])⟩))
            (by intro b hb'; rw [hb]; simp only [List.mem_append] at hb' ⊢; rcases hb' with hb' | hb' <;> simp [hb'])
            (fun t cs' h => by cases h) (fun c hc => by
              exfalso
              have : isOwnO (atRoot (lkMod g s (.tup (xs.set i (ag, [])))) ⟨s, k, c⟩) = false := by
                unfold atRoot lkMod
                simp only [if_true, hg, Option.map_some]
                cases Nat.beq k k <;> cases c <;> simp [isOwnO]
              rw [this] at hc; cases hc)
          have hnd := M.nodup s
          rw [hb] at hnd
          refine ⟨_, w, v, hrun, .inl rfl, M1.fin hd (x := .one ag cs) hcomp trivial (pb := b2) ?_ ?_ ?_ ?_⟩
          · simp only [List.append_assoc] at hnd; exact (List.nodup_append.1 (List.nodup_append.1 hnd).2.1).1
          · intro t _ b hb2 hbt
            by_cases hts : t = s
            · subst hts
              simp only [if_true] at hbt
              rcases List.mem_append.1 hbt with hbt | hbt
              · simp only [List.append_assoc] at hnd
                exact (List.nodup_append.1 hnd).2.2 b hbt b (by simp [hb2]) rfl
              · exact (List.nodup_append.1 hnd).2.2 b (by simp [hb2]) b hbt rfl
            · rw [if_neg hts] at hbt
              exact M.disj s t (Ne.symm hts) b (by rw [hb]; simp [hb2]) hbt
          · intro b hb2; exact M.mine s b (by rw [hb]; simp [hb2])
          · intro b hb2; exact M.lt s b (by rw [hb]; simp [hb2])
  · cases hc
end Go.X
