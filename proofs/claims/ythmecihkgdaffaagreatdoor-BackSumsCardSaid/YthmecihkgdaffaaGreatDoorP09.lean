/- Part 9 of the proof of BackSums: What a call does: the proof. Orders: whatever order a region is drawn in, each operation stands behind those it waits for. No conditions but those that each theorem names. -/
import Derived.Test.YthmecihkgdaffaaGreatDoorP08
import Derived.Orders
namespace Go.X
open Go
variable {cx : Cx} {h k : Hp} {bs : Nat → List Nat} {g : Lk} {a : Act} {w w' : World}

theorem lkPut_congr {g g' : Lk} {s : Nat} {x : S} (h : (g' s).map (·.1) = (g s).map (·.1)) : lkPut g' s x s = lkPut g s x s := by
  simp only [lkPut, if_true]
  cases h1 : g' s <;> cases h2 : g s <;> rw [h1, h2] at h <;> simp at h ⊢
  exact h
theorem lkPuts_congr : ∀ (l : List (Nat × S)) {g g' : Lk}, (∀ s, (∀ m ∈ l, m.1 ≠ s) → g' s = g s) → (∀ m ∈ l, (g' m.1).map (·.1) = (g m.1).map (·.1)) → lkPuts g' l = lkPuts g l
  | [], g, g', h, _ => funext fun s => h s fun m hm => by cases hm
  | (s, x) :: r, g, g', h, hv => by
    simp only [lkPuts]
    have hs := lkPut_congr (x := x) (hv (s, x) (by simp))
    refine lkPuts_congr r (fun t ht => ?_) (fun m hm => ?_)
    · by_cases hts : t = s
      · subst hts; exact hs
      · have := h t fun m hm => by
          rcases List.mem_cons.1 hm with h | h
          · rw [h]; exact Ne.symm hts
          · exact ht m h
        simp only [lkPut, hts, if_false, this]
    · by_cases hms : m.1 = s
      · rw [hms, hs]
      · have := hv m (by simp [hm])
        simp only [lkPut, hms, if_false, this]

theorem retells (M : SimW cx h bs g a w) : ∀ {xs : List Operand} {es os : List S} {rd : List Nat} {pt : List (Nat × S)} {p : F}, argsE g xs es os = some (rd, pt, p) → p.h →
    ∀ {bo : List Nat}, Alls k w' os (xs.map a.eval) bo → bo.Nodup → (∀ b ∈ bo, (cx.w0.heap.size ≤ b ∨ b ∈ cx.lb) ∧ b < w'.heap.size) →
    ∀ {bs2 : Nat → List Nat} {g2 : Lk}, SimW cx k bs2 g2 a w' → (∀ s b, b ∈ bs2 s → b ∉ bo) → ∃ bs3, SimW cx k bs3 (lkPuts g2 pt) a w' ∧ ∀ s b, b ∈ bs3 s → b ∈ bs2 s ∨ b ∈ bo
  | [], [], [], _, _, _, hc, _, bo, _, _, _, bs2, g2, M2, _ => by
    simp only [argsE, Option.some.injEq, Prod.mk.injEq] at hc
    obtain ⟨rfl, rfl, rfl⟩ := hc
    exact ⟨bs2, M2, fun s b hb => .inl hb⟩
  | x :: xs, e :: es, o :: os, _, _, _, hc, hp, bo, hal, hnd, hmine, bs2, g2, M2, hdis => by
    simp only [argsE, cond_eq_ite] at hc
    split at hc
    · rename_i r l p r' l' p' h1 h2
      split at hc
      · cases hc
      · simp only [Option.some.injEq, Prod.mk.injEq] at hc
        obtain ⟨rfl, rfl, rfl⟩ := hc
        obtain ⟨v, vs', b1, b2, hv, rfl, ht, hal2⟩ := hal
        simp only [List.map_cons, List.cons.injEq] at hv
        obtain ⟨rfl, rfl⟩ := hv
        obtain ⟨_, _, _, o1⟩ := arg_ok M h1 hp.1
        have nd := List.nodup_append.1 hnd
        rcases o1 with ⟨rfl, _⟩ | ⟨t, kk, y, rfl, hfirm, _, hgt, hat⟩
        · obtain ⟨bs3, M3, h3⟩ := retells M h2 hp.2 hal2 nd.2.1 (fun b hb => hmine b (by simp [hb])) M2 (fun s b hb hc => hdis s b hb (by simp [hc]))
          exact ⟨bs3, M3, fun s b hb => (h3 s b hb).imp id fun h => by simp [h]⟩
        · have M2' := M2.retell hat ht (firm_refs hfirm) nd.1 (fun s _ b hb hc => hdis s b hc (by simp [hb])) (fun b hb => (hmine b (by simp [hb])).1) (fun b hb => (hmine b (by simp [hb])).2)
          obtain ⟨bs3, M3, h3⟩ := retells M h2 hp.2 hal2 nd.2.1 (fun b hb => hmine b (by simp [hb])) M2' (fun s b hb hc => by
            split at hb
            · exact nd.2.2 b hb b hc rfl
            · exact hdis s b hb (by simp [hc]))
          refine ⟨bs3, M3, fun s b hb => ?_⟩
          rcases h3 s b hb with h | h
          · split at h
            · exact .inr (by simp [h])
            · exact .inl h
          · exact .inr (by simp [h])
    · cases hc
  | [], [], _ :: _, _, _, _, hc, _, _, _, _, _, _, _, _, _ => by simp [argsE] at hc
  | [], _ :: _, _, _, _, _, hc, _, _, _, _, _, _, _, _, _ => by simp [argsE] at hc
  | _ :: _, [], _, _, _, _, hc, _, _, _, _, _, _, _, _, _ => by simp [argsE] at hc
  | _ :: _, _ :: _, [], _, _, _, hc, _, _, _, _, _, _, _, _, _ => by simp [argsE] at hc

theorem args_slots (M : SimW cx h bs g a w) : ∀ {xs : List Operand} {es os : List S} {rd : List Nat} {pt : List (Nat × S)} {p : F}, argsE g xs es os = some (rd, pt, p) → p.h → ∀ m ∈ pt, ∃ k y, g m.1 = some (k, y)
  | [], [], [], _, _, _, hc, _, m, hm => by
    simp only [argsE, Option.some.injEq, Prod.mk.injEq] at hc
    obtain ⟨rfl, rfl, rfl⟩ := hc
    cases hm
  | x :: xs, e :: es, o :: os, _, _, _, hc, hp, m, hm => by
    simp only [argsE, cond_eq_ite] at hc
    split at hc
    · rename_i r l p r' l' p' h1 h2
      split at hc
      · cases hc
      · simp only [Option.some.injEq, Prod.mk.injEq] at hc
        obtain ⟨rfl, rfl, rfl⟩ := hc
        obtain ⟨_, _, _, o1⟩ := arg_ok M h1 hp.1
        rcases List.mem_append.1 hm with hm | hm
        · rcases o1 with ⟨rfl, _⟩ | ⟨t, kk, y, rfl, _, _, hgt, _⟩
          · cases hm
          · simp only [List.mem_singleton] at hm; subst hm; exact ⟨kk, y, hgt⟩
        · exact args_slots M h2 hp.2 m hm
    · cases hc
  | [], [], _ :: _, _, _, _, hc, _, _, _ => by simp [argsE] at hc
  | [], _ :: _, _, _, _, _, hc, _, _, _ => by simp [argsE] at hc
  | _ :: _, [], _, _, _, _, hc, _, _, _ => by simp [argsE] at hc
  | _ :: _, _ :: _, [], _, _, _, hc, _, _, _ => by simp [argsE] at hc

/-- after a call -/
theorem after_call (M : SimW cx h bs g a w) (hnorm : ∀ s, g s = none → bs s = []) {xs : List Operand} {es os : List S} {res : S} {rd : List Nat} {pt : List (Nat × S)} {p : F} (hc : argsE g xs es os = some (rd, pt, p)) (hp : p.h)
    {bA : List Nat} (hbA : ∀ q ∈ bA, ∃ m ∈ pt, q ∈ bs m.1) {bo br : List Nat} {v : Value} (R : Ret h w (xs.map a.eval) bA os res k bo br v w') :
    ∃ bs', SimW cx k bs' (lkPuts g pt) a w' ∧ (∀ s, ∀ b ∈ bs' s, b ∉ br) ∧ ∀ b ∈ br, (cx.w0.heap.size ≤ b ∨ b ∈ cx.lb) ∧ b < w'.heap.size := by
  have hslots := args_slots M hc hp
  obtain ⟨bs1, g1, M1, hout, hin⟩ := empties pt M hslots
  have mineA : ∀ b ∈ bA, cx.w0.heap.size ≤ b ∨ b ∈ cx.lb := fun b hb => let ⟨m, _, hm⟩ := hbA b hb; M.mine m.1 b hm
  have ltA : ∀ b ∈ bA, b < w.heap.size := fun b hb => let ⟨m, _, hm⟩ := hbA b hb; M.lt m.1 b hm
  have mineR : ∀ b ∈ bo ++ br, (cx.w0.heap.size ≤ b ∨ b ∈ cx.lb) ∧ b < w'.heap.size := fun b hb => by
    obtain ⟨h1, h2⟩ := R.mine b hb
    exact ⟨h1.elim (fun h => .inl (Nat.le_trans M.fr.size h)) (mineA b), h2⟩
  have free1 : ∀ s b, b ∈ bs1 s → b ∉ bA ∧ b < w.heap.size ∧ h.g b = none := by
    intro s b hb
    refine ⟨fun hbA' => ?_, M1.lt s b hb, ?_⟩
    · obtain ⟨m, hm, hq⟩ := hbA b hbA'
      by_cases hs : ∀ m' ∈ pt, m'.1 ≠ s
      · rw [(hout s hs).1] at hb
        exact M.disj s m.1 (fun e => hs m hm e.symm) b hb hq
      · refine hs fun m' hm' e => ?_
        rw [← e, (hin m' hm').1] at hb
        cases hb
    · cases hg1 : g1 s with
      | some q =>
        obtain ⟨k1, y1⟩ := q
        obtain ⟨u, _, ht, _⟩ := M1.slot s k1 y1 hg1
        exact ht.nog b hb
      | none =>
        by_cases hs : ∀ m' ∈ pt, m'.1 ≠ s
        · obtain ⟨e1, e2⟩ := hout s hs
          rw [hg1] at e2
          rw [e1, hnorm s e2.symm] at hb
          cases hb
        · exact absurd (fun m' hm' e => by
            obtain ⟨_, k', y', _, e3⟩ := hin m' hm'
            rw [e, hg1] at e3
            cases e3) hs
  have M2 := M1.world' (k := k) (w' := w') (fun b => b ∈ bA) mineA R.le R.holds
    (fun b hb hl i => R.newc b (Nat.lt_of_lt_of_le hb M.fr.size) (fun hc => (mineA b hc).elim (fun h => by omega) hl) i)
    (fun b hb => R.newg b (Nat.lt_of_lt_of_le hb M.fr.size))
    ⟨R.fr.os, R.fr.tape, R.fr.output, R.fr.size, fun b hb hx => R.fr.block b hb fun h => hx (h.elim .inr .inl)⟩
    (fun s => ⟨fun b hb => by
        obtain ⟨h1, h2, h3⟩ := free1 s b hb
        exact R.fr.block b h2 fun h => h.elim h1 fun ⟨l, hl⟩ => (by rw [h3] at hl; cases hl),
      fun b hb i => by
        obtain ⟨h1, h2, h3⟩ := free1 s b hb
        exact R.newc b h2 h1 i,
      fun b hb => R.newg b (free1 s b hb).2.1⟩)
  have nd := List.nodup_append.1 R.nodup
  have disj1 : ∀ s b, b ∈ bs1 s → b ∉ bo ++ br := fun s b hb hc => by
    obtain ⟨h1, h2, h3⟩ := free1 s b hb
    rcases (R.mine b hc).1 with h | h
    · omega
    · exact h1 h
  obtain ⟨bs3, M3, h3⟩ := retells (k := k) (w' := w') M hc hp R.outs nd.1 (fun b hb => mineR b (by simp [hb])) M2 (fun s b hb hc => disj1 s b hb (by simp [hc]))
  have he : lkPuts g1 pt = lkPuts g pt := lkPuts_congr pt (fun s hs => (hout s hs).2) fun m hm => by
    obtain ⟨_, k', y', e2, e3⟩ := hin m hm
    rw [e2, e3]; rfl
  rw [he] at M3
  refine ⟨bs3, M3, fun s b hb hc => ?_, fun b hb => mineR b (by simp [hb])⟩
  rcases h3 s b hb with h | h
  · exact disj1 s b h (by simp [hc])
  · exact nd.2.2 b h b hc rfl

def DoesX (cx : Cx) (g : Lk) (o : Oper) (e : EffX) : Prop :=
  ∀ (next : Act → World → Prop) (Q : Exit → Act → World → Prop) a w, Sim cx g a w → (∀ a' w', Sim cx (uponX g e o.dst) a' w' → next a' w') → o.wp cx.P a w next Q

theorem Does.x {g : Lk} {o : Oper} {e : Eff} {tr : Bool} (h : Does cx g o e) : DoesX cx g o (e.x tr) := h

theorem does_call {o : Oper} {f : FuncId} {xs : Array Operand} {ts : Array TypeId} {es os : List S} {res : S} {e : EffX} {K : FuncId → List S → List S → S → Prop}
    (ho : o.op = .call { callee := .value (.func f), args := xs, argTypes := ts }) (hd : DstOk cx o.dst)
    (hc : callE K g f xs.toList es os res = some e) (hp : e.pre.h) (hK : K f es os res → Den cx.P f es os res) : DoesX cx g o e := by
  unfold callE at hc
  split at hc
  · rename_i r l p hargs
    cases hf : firm res with
    | false => rw [hf] at hc; simp at hc
    | true =>
      rw [hf] at hc
      simp only [cond_true, Option.some.injEq] at hc
      subst hc
      obtain ⟨hp1, hp2⟩ := hp
      have den := hK hp2
      rintro next Q a w ⟨h, bs0, M0⟩ hn
      have M := M0.norm
      obtain ⟨bA, hal, hnd, hbA⟩ := args_ok M hargs hp1
      have ans := den h w _ bA M.holds hal hnd (fun b hb => let ⟨m, _, hm⟩ := hbA b hb; M.lt m.1 b hm)
      have fin : ∀ v w', (∃ k bo br, Ret h w (xs.toList.map a.eval) bA os res k bo br v w') → next (a.put o.dst v) w' := by
        rintro v w' ⟨k, bo, br, R⟩
        obtain ⟨bs', M', h1, h2⟩ := after_call M (fun s hs => by show (if (g s).isSome then bs0 s else []) = []; rw [hs]; rfl) hargs hp1 hbA R
        refine hn _ _ ?_
        exact M'.fin hd R.res (firm_refs hf) (List.nodup_append.1 R.nodup).2.1 (fun s _ b hb hc => h1 s b hc hb) (fun b hb => (h2 b hb).1) (fun b hb => (h2 b hb).2)
      have hexec : execOp a.eval o = callFunc f (xs.map a.eval) := by
        simp [execOp, ho, resolve, Deferred.ofValue, invoke, Act.eval]
      have harr : (xs.toList.map a.eval).toArray = xs.map a.eval := by
        rw [← Array.toList_map]
      rw [harr] at ans
      unfold Oper.wp
      rw [hexec]
      rcases ans with ⟨v, w', h1, h2⟩ | ⟨h1, h2⟩
      · rw [h1]; exact fin v w' h2
      · rw [h1]
        refine Calls.mono h2 fun e w' he => ?_
        cases e with
        | returned v => exact fin v w' he
        | panicked c => exact he.elim
        | outgrown => exact he.elim
  · cases hc

/-! ### what is lent to be read alone -/
theorem lkPuts_off : ∀ {l : List (Nat × S)} {g : Lk} {s : Nat}, (∀ m ∈ l, m.1 ≠ s) → lkPuts g l s = g s
  | [], _, _, _ => rfl
  | (t, x) :: r, g, s, h => by
    rw [lkPuts, lkPuts_off fun m hm => h m (List.mem_cons_of_mem _ hm)]
    have : s ≠ t := fun e => h (t, x) (by simp) e.symm
    simp [lkPut, this]
theorem lkPuts_in : ∀ {l : List (Nat × S)} {g : Lk} {s : Nat}, (∃ m ∈ l, m.1 = s) → ∃ m ∈ l, m.1 = s ∧ ∃ k, lkPuts g l s = some (k, m.2)
  | [], _, _, h => by obtain ⟨m, hm, _⟩ := h; cases hm
  | (t, x) :: r, g, s, h => by
    by_cases hr : ∃ m ∈ r, m.1 = s
    · obtain ⟨m, h1, h2, h3⟩ := lkPuts_in (g := lkPut g t x) hr
      exact ⟨m, List.mem_cons_of_mem _ h1, h2, h3⟩
    · have : t = s := by
        obtain ⟨m, hm, he⟩ := h
        rcases List.mem_cons.1 hm with rfl | hm
        · exact he
        · exact absurd ⟨m, hm, he⟩ hr
      subst this
      refine ⟨(t, x), by simp, rfl, ?_⟩
      rw [lkPuts, lkPuts_off fun m hm he => hr ⟨m, hm, he⟩]
      simp only [lkPut, if_true]
      exact ⟨_, rfl⟩
/-- a slot that is told as it was -/
def Back (g : Lk) (m : Nat × S) : Prop := ∃ k bt cs q, g m.1 = some (k, .box bt cs) ∧ cs.any C.isOwn = false ∧ convT m.2 (.box bt cs) = some q ∧ q.h
theorem argR_back {x : Operand} {exp out : S} {r rd : List Nat} {p p0 : F} {pt : List (Nat × S)} (h1 : argR g x exp out = some (r, p)) (h2 : argE g x exp out = some (rd, pt, p0)) (hp : p.h) : p0.h ∧ ∀ m ∈ pt, Back g m := by
  unfold argR at h1
  unfold argE at h2
  cases hpl : plainS exp with
  | true =>
    rw [hpl] at h1 h2
    simp only [cond_true] at h1 h2
    split at h1
    · rename_i hx
      rw [hx] at h2
      simp only at h2
      split at h1
      · rename_i q hq
        rw [hq] at h2
        simp only [Option.some.injEq, Prod.mk.injEq] at h1 h2
        obtain ⟨_, rfl⟩ := h1
        obtain ⟨_, rfl, rfl⟩ := h2
        exact ⟨hp, fun m hm => by cases hm⟩
      · cases h1
    · cases h1
  | false =>
    rw [hpl] at h1 h2
    simp only [cond_false] at h1 h2
    simp only [cond_eq_ite] at h1 h2
    split at h1
    · cases h1
    rename_i hf
    rw [if_neg hf] at h2
    split at h1
    · rename_i t k r0 hx
      rw [hx] at h2
      simp only at h2
      split at h1
      · rename_i k' bt cs hrc hg
        rw [hrc, hg] at h2
        simp only at h2
        split at h1
        · rename_i hq
          split at h1
          · rename_i q1 q2 hc1 hc2
            simp only [Option.some.injEq, Prod.mk.injEq] at h1
            obtain ⟨_, rfl⟩ := h1
            split at h2
            · rw [hc1] at h2
              simp only [Option.some.injEq, Prod.mk.injEq] at h2
              obtain ⟨_, rfl, rfl⟩ := h2
              simp only [Bool.and_eq_true, Bool.not_eq_true'] at hq
              refine ⟨hp.1, fun m hm => ?_⟩
              simp only [List.mem_singleton] at hm
              subst hm
              exact ⟨k', bt, cs, q2, hg, hq.2, hc2, hp.2⟩
            · cases h2
          · cases h1
        · cases h1
      · cases h1
    · rename_i t k bt cs hx
      rw [hx] at h2
      simp only at h2
      split at h1
      · rename_i hq
        split at h1
        · rename_i q1 q2 hc1 hc2
          simp only [Option.some.injEq, Prod.mk.injEq] at h1
          obtain ⟨_, rfl⟩ := h1
          split at h2
          · rw [hc1] at h2
            simp only [Option.some.injEq, Prod.mk.injEq] at h2
            obtain ⟨_, rfl, rfl⟩ := h2
            simp only [Bool.not_eq_true'] at hq
            refine ⟨hp.1, fun m hm => ?_⟩
            simp only [List.mem_singleton] at hm
            subst hm
            have hg : g t = some (k, .box bt cs) := by
              unfold src at hx
              split at hx
              · rename_i t' 
                split at hx
                · rename_i k1 x1 hg1
                  simp only [Option.some.injEq, Prod.mk.injEq] at hx
                  obtain ⟨rfl, rfl, rfl⟩ := hx
                  exact hg1
                · cases hx
              · simp only [cond_eq_ite] at hx
                split at hx
                · simp at hx
                · cases hx
              · cases hx
            exact ⟨k, bt, cs, q2, hg, hq, hc2, hp.2⟩
          · cases h2
        · cases h1
      · cases h1
    · cases h1
theorem argsR_back : ∀ {xs : List Operand} {es os : List S} {r rd : List Nat} {p p0 : F} {pt : List (Nat × S)}, argsR g xs es os = some (r, p) → argsE g xs es os = some (rd, pt, p0) → p.h → p0.h ∧ ∀ m ∈ pt, Back g m
  | [], [], [], _, _, _, _, _, h1, h2, hp => by
    simp only [argsE, Option.some.injEq, Prod.mk.injEq] at h2
    obtain ⟨rfl, rfl, rfl⟩ := h2
    exact ⟨trivial, fun m hm => by cases hm⟩
  | x :: xs, e :: es, o :: os, _, _, _, _, _, h1, h2, hp => by
    simp only [argsR] at h1
    split at h1
    · rename_i r1 p1 r2 p2 a1 a2
      simp only [Option.some.injEq, Prod.mk.injEq] at h1
      obtain ⟨_, rfl⟩ := h1
      simp only [argsE, cond_eq_ite] at h2
      split at h2
      · rename_i b1 b2
        split at h2
        · cases h2
        · simp only [Option.some.injEq, Prod.mk.injEq] at h2
          obtain ⟨_, rfl, rfl⟩ := h2
          obtain ⟨c1, c2⟩ := argR_back a1 b1 hp.1
          obtain ⟨c3, c4⟩ := argsR_back a2 b2 hp.2
          exact ⟨⟨c1, c3⟩, fun m hm => (List.mem_append.1 hm).elim (c2 m) (c4 m)⟩
      · cases h2
    · cases h1
  | [], [], _ :: _, _, _, _, _, _, h1, _, _ => by simp [argsR] at h1
  | [], _ :: _, _, _, _, _, _, _, h1, _, _ => by simp [argsR] at h1
  | _ :: _, [], _, _, _, _, _, _, h1, _, _ => by simp [argsR] at h1
  | _ :: _, _ :: _, [], _, _, _, _, _, h1, _, _ => by simp [argsR] at h1
/-- slots that came back as they were are told as they were -/
theorem SimW.back (M : SimW cx h bs g a w) {pt : List (Nat × S)} (hb : ∀ m ∈ pt, Back g m) {bs1 : Nat → List Nat} (M1 : SimW cx k bs1 (lkPuts g pt) a w')
    (hw : ∀ s, (∀ m ∈ pt, m.1 ≠ s) → ∀ b ∈ bs s, w'.heap[b]? = w.heap[b]?) : ∃ bs2, SimW cx k bs2 g a w' ∧ ∀ s b, b ∈ bs2 s → b ∈ bs1 s := by
  have key : ∀ s, ∃ b', List.Sublist b' (bs1 s) ∧ ∀ kk y, g s = some (kk, y) → ∃ v, a.tmps[s]? = some v ∧ Tells k w' y v b' := by
    intro s
    by_cases hs : ∃ m ∈ pt, m.1 = s
    · obtain ⟨m, hm, rfl, k1, hk1⟩ := lkPuts_in (g := g) hs
      obtain ⟨k0, bt, cs, q, hg, _, hq, hqh⟩ := hb m hm
      obtain ⟨v, hv, ht, _⟩ := M1.slot _ _ _ hk1
      obtain ⟨b', h1, h2⟩ := convT_ok ht hq hqh
      refine ⟨b', h2, fun kk y hy => ⟨v, hv, ?_⟩⟩
      rw [hg] at hy
      injection hy with hy
      injection hy with _ hy
      subst hy; exact h1
    · have hs' : ∀ m ∈ pt, m.1 ≠ s := fun m hm e => hs ⟨m, hm, e⟩
      refine ⟨bs1 s, List.Sublist.refl _, fun kk y hy => ?_⟩
      obtain ⟨v, hv, ht, _⟩ := M1.slot s kk y (by rw [lkPuts_off hs']; exact hy)
      exact ⟨v, hv, ht⟩
  obtain ⟨bs2, hbs⟩ := Classical.axiomOfChoice key
  have inb : ∀ s b, b ∈ bs2 s → b ∈ bs1 s := fun s b hb => (hbs s).1.subset hb
  refine ⟨bs2, ⟨M1.le, M1.newc, M1.newg, M1.holds, M1.fr, M1.defers, M1.size, fun s kk y hy => ?_, fun s => (M1.nodup s).sublist (hbs s).1, fun s t hst b h1 h2 => M1.disj s t hst b (inb _ _ h1) (inb _ _ h2), fun s b hb => M1.mine s b (inb _ _ hb), fun s b hb => M1.lt s b (inb _ _ hb), M1.pins⟩, inb⟩
  obtain ⟨v, hv, ht⟩ := (hbs s).2 kk y hy
  obtain ⟨v', hv', _, hr⟩ := M.slot s kk y hy
  have : v' = v := by rw [hv] at hv'; exact (Option.some.inj hv').symm
  subst this
  refine ⟨v', hv, ht, hr.keep fun s k1 y1 hy1 => ⟨k1, y1, hy1, Nat.le_refl _, fun _ => ⟨rfl, fun t cs' h => ⟨cs', h⟩, fun c k0 ho he => ?_⟩⟩⟩
  subst he
  obtain ⟨sz, n, f, hf⟩ := isOwnO_some ho
  refine ⟨sz, n, f, f, hf, hf, ?_⟩
  cases c with
  | none => rfl
  | some i =>
    obtain ⟨u, hu, htu, _⟩ := M.slot s k0 y1 hy1
    unfold atRoot at hf
    rw [hy1] at hf
    simp only [beq_eq, decide_true, cond_true] at hf
    cases y1 with
    | box t cs =>
      obtain ⟨b', vs, bs', hvb, hhb, ho', hbs', hfr⟩ := htu
      unfold rootV
      simp only [hu, hvb]
      refine World.cell?_of_block (hw s (fun m hm e => ?_) b' (by rw [hbs']; simp))
      obtain ⟨k9, bt, cs9, q, hg, hno, _⟩ := hb m hm
      rw [e, hy1] at hg
      injection hg with hg
      injection hg with _ hg
      injection hg with _ hg
      subst hg
      have := List.any_eq_false.1 hno _ (List.mem_of_getElem? hf)
      simp [C.isOwn] at this
    | one ag cs => simp at hf
    | tup xs => simp at hf
    | ref r => simp at hf
    | adr a b c => simp at hf
    | elt a b c => simp at hf
    | imm a b c => simp at hf
    | ifc a b c => simp at hf
    | itr a b => simp at hf
    | bld a b c => simp at hf
    | no => simp at hf
/-- a call, by its contract: what is lent is told anew, or, where it is read alone, as it was -/
theorem call_wp {o : Oper} {f : FuncId} {vs : Array Value} {xs : List Operand} {es os : List S} {res : S} {r : List Nat} {l : List (Nat × S)} {p : F} {Q : Exit → Act → World → Prop} {next : Act → World → Prop}
    (hd : DstOk cx o.dst) (hargs : argsE g xs es os = some (r, l, p)) (hp1 : p.h) (hf : firm res = true) (M0 : SimW cx h bs g a w) (ro : Bool) (hro : ro = true → ∀ m ∈ l, Back g m)
    {e0 o0 : S} {v0 : Value} {pre : Bool} (hv0 : pre = true → Tells h w e0 v0 [] ∧ plainS e0 = true)
    (hvs : vs = ((if pre then [v0] else []) ++ xs.map a.eval).toArray) (den : Den cx.P f ((if pre then [e0] else []) ++ es) ((if pre then [o0] else []) ++ os) res)
    (hexec : (execOp a.eval o).run cx.P w = (callFunc f vs).run cx.P w)
    (hn : ∀ a' w', Sim cx (lkDst (lkPuts g (if ro then [] else l)) o.dst res) a' w' → next a' w') : o.wp cx.P a w next Q := by
  have M := M0.norm
  obtain ⟨bA, hal, hnd, hbA⟩ := args_ok M hargs hp1
  have hal' : Alls h w ((if pre then [e0] else []) ++ es) ((if pre then [v0] else []) ++ xs.map a.eval) bA := by
    cases pre with
    | false => simpa using hal
    | true => exact ⟨v0, _, [], bA, rfl, rfl, (hv0 rfl).1, hal⟩
  have ans := den h w _ bA M.holds hal' hnd (fun b hb => let ⟨m, _, hm⟩ := hbA b hb; M.lt m.1 b hm)
  have fin : ∀ v w', (∃ k bo br, Ret h w ((if pre then [v0] else []) ++ xs.map a.eval) bA ((if pre then [o0] else []) ++ os) res k bo br v w') → next (a.put o.dst v) w' := by
    rintro v w' ⟨k, bo, br, R⟩
    have R' : ∃ bo', Ret h w (xs.map a.eval) bA os res k bo' br v w' := by
      cases pre with
      | false => exact ⟨bo, by simpa using R⟩
      | true =>
        obtain ⟨v1, vs1, b1, b2, e1, rfl, t1, t2⟩ := R.outs
        simp only [if_true, List.singleton_append, List.cons.injEq] at e1
        obtain ⟨rfl, rfl⟩ := e1
        have sub : List.Sublist (b2 ++ br) (b1 ++ b2 ++ br) := by rw [List.append_assoc]; exact List.sublist_append_right _ _
        exact ⟨b2, R.le, R.newc, R.newg, R.holds, R.fr, t2, R.res, R.nodup.sublist sub, fun b hb => R.mine b (sub.subset hb)⟩
    obtain ⟨bo', R'⟩ := R'
    obtain ⟨bs', M', h1, h2⟩ := after_call M (fun s hs => by show (if (g s).isSome then bs s else []) = []; rw [hs]; rfl) hargs hp1 hbA R'
    have hres := (List.nodup_append.1 R.nodup).2.1
    cases ro with
    | false => exact hn _ _ (M'.fin hd R.res (firm_refs hf) hres (fun s _ b hb hc => h1 s b hc hb) (fun b hb => (h2 b hb).1) (fun b hb => (h2 b hb).2))
    | true =>
      obtain ⟨bs2, M2, h3⟩ := M.back (hro rfl) M' (fun s hs b hb => R.fr.block b (M.lt s b hb) fun hx => by
        rcases hx with hx | ⟨l0, hl0⟩
        · obtain ⟨m, hm, hq⟩ := hbA b hx
          exact M.disj m.1 s (hs m hm) b hq hb
        · have hgs : ∃ q, g s = some q := by
            cases hg : g s with
            | some q => exact ⟨q, rfl⟩
            | none => simp [hg] at hb
          obtain ⟨⟨kk, y⟩, hg⟩ := hgs
          obtain ⟨u, _, ht, _⟩ := M.slot s kk y hg
          have := ht.nog b hb
          rw [hl0] at this; cases this)
      exact hn _ _ (M2.fin hd R.res (firm_refs hf) hres (fun s _ b hb hc => h1 s b (h3 s b hc) hb) (fun b hb => (h2 b hb).1) (fun b hb => (h2 b hb).2))
  rw [← hvs] at ans
  unfold Oper.wp
  rw [hexec]
  rcases ans with ⟨v, w', h1, h2⟩ | ⟨h1, h2⟩
  · rw [h1]; exact fin v w' h2
  · rw [h1]
    refine Calls.mono h2 fun e w' he => ?_
    cases e with
    | returned v => exact fin v w' he
    | panicked c => exact he.elim
    | outgrown => exact he.elim
theorem does_callR {o : Oper} {f : FuncId} {xs : Array Operand} {ts : Array TypeId} {es os : List S} {res : S} {e : EffX} {K : FuncId → List S → List S → S → Prop}
    (ho : o.op = .call { callee := .value (.func f), args := xs, argTypes := ts }) (hd : DstOk cx o.dst)
    (hc : callR K g f xs.toList es os res = some e) (hp : e.pre.h) (hK : K f es os res → Den cx.P f es os res) : DoesX cx g o e := by
  unfold callR at hc
  split at hc
  · rename_i r p rd q hr hargs
    obtain ⟨pt, p0⟩ := q
    cases hf : firm res with
    | false => rw [hf] at hc; simp at hc
    | true =>
      rw [hf] at hc
      simp only [cond_true, Option.some.injEq] at hc
      subst hc
      obtain ⟨hp1, hp2⟩ := hp
      obtain ⟨h1, h2⟩ := argsR_back hr hargs hp1
      rintro next Q a w ⟨h, bs0, M0⟩ hn
      refine call_wp (f := f) (vs := xs.map a.eval) hd hargs h1 hf M0 true (fun _ => h2) (pre := false) (e0 := .no) (o0 := .no) (v0 := undef) (fun h => by cases h) ?_ (hK hp2) ?_ hn
      · simp [← Array.toList_map]
      · have : execOp a.eval o = callFunc f (xs.map a.eval) := by
          simp [execOp, ho, resolve, Deferred.ofValue, invoke, Act.eval]
        rw [this]
  · cases hc
theorem does_storeX (hT : TabOk cx.P cx.T) {o : Oper} (hd : o.dst = none) {t : TypeId} {x y : Operand} {e : EffX} (ho : o.op = .store t x y) (hc : storeX cx.T g t x y = some e) : DoesX cx g o e := by
  unfold storeX at hc
  cases hk : kn cx.T t with
  | false => rw [hk] at hc; simp at hc
  | true =>
  rw [hk] at hc
  simp only [Bool.not_true, cond_false] at hc
  split at hc
  · rename_i rd s k off q ky ag xs hx hy
    cases hbx : boxAt g s k with
    | none => rw [hbx] at hc; cases hc
    | some p =>
      obtain ⟨bt, cs⟩ := p
      rw [hbx] at hc
      simp only at hc
      have hg := boxAt_spec hbx
      cases hq : (Nat.beq xs.length (cx.T t).size && (ag == aggK (cx.T t).k) && Nat.ble (off + xs.length) cs.length && !Nat.beq q s) with
      | false => rw [hq] at hc; cases hc
      | true =>
        rw [hq] at hc
        simp only [cond_true, Option.some.injEq] at hc
        subst hc
        simp only [Bool.and_eq_true, Bool.not_eq_true', beq_iff_eq] at hq
        obtain ⟨⟨⟨q1, q2⟩, q3⟩, q4⟩ := hq
        have hl := Nat.eq_of_beq_eq_true q1
        have hfit := Nat.le_of_ble_eq_true q3
        have hqs : q ≠ s := by
          intro h; subst h; simp at q4
        rintro next Q a w ⟨h, bs, M⟩ hn
        obtain ⟨ht, _, hsl⟩ := src_tells M hy
        obtain ⟨hgq, hvq⟩ := hsl q rfl
        obtain ⟨us, hus, hev, _⟩ := ht
        have hus : OwnCs h w xs us (bs q) := hus
        obtain ⟨_, hr, _⟩ := addrOf_tells M hx
        obtain ⟨b, vs, bs', hevx, hts, hh, hown, hbs, hfree⟩ := adr_box M hr hg
        have hul : us.length = xs.length := hus.length
        have hvl : vs.length = cs.length := hown.length
        have hrun : (execOp a.eval o).run cx.P w = .ok .skip (w.setRow b (vs.take off ++ us ++ vs.drop (off + us.length)).toArray) := by
          have := storeVar_run hT hk (b := b) (off := off) (ag := ag) (vs := us) (w := w) (cur := vs.toArray) (bt := bt) q2 (by rw [hul, hl]) hus.ones hh (by simp; omega)
          simp only at this
          simp [execOp, ho, Instr.storeAt, Instr.sureAddr, hevx, hev, this]
        revert hrun
        generalize hnew : (vs.take off ++ us ++ vs.drop (off + us.length)).toArray = new
        intro hrun
        have other : ∀ c, c ≠ b → (w.setRow b new).heap[c]? = w.heap[c]? := fun c hc => setRow_other w b c new hc
        have hbm : b ∈ bs s := by rw [hbs]; simp
        have hnd := M.nodup s
        rw [hbs] at hnd
        have hnd' := List.nodup_cons.1 hnd
        have M1 := M.mod hgq (x := .no) (pb := []) (fun u _ => ⟨rfl, trivial⟩) List.nodup_nil (fun b hb => by cases hb) (fun t cs' h => by cases h) (fun c h => by rw [noOwn_no] at h; cases h)
        have hg1 : lkMod g q .no s = some (k, .box bt cs) := by simp [lkMod, Ne.symm hqs, hg]
        have M2 := M1.mod hg1 (x := .no) (pb := []) (fun u _ => ⟨rfl, trivial⟩) List.nodup_nil (fun b hb => by cases hb) (fun t cs' h => by cases h) (fun c h => by rw [noOwn_no] at h; cases h)
        have nb : ∀ t c, (c ∈ if t = s then [] else if t = q then [] else bs t) → c ∈ bs t ∧ t ≠ s ∧ t ≠ q := by
          intro t c hc
          by_cases h1 : t = s
          · rw [if_pos h1] at hc; cases hc
          · by_cases h2 : t = q
            · rw [if_neg h1, if_pos h2] at hc; cases hc
            · rw [if_neg h1, if_neg h2] at hc; exact ⟨hc, h1, h2⟩
        have M3 := M2.world' (k := h) (w' := w.setRow b new) (fun c => c = b) (fun c hc => by rw [hc]; exact M.mine s b hbm) (Hp.le.refl h)
          ⟨fun c i v hv => by
            have hcb : c ≠ b := fun e => by rw [e, hfree.c i] at hv; cases hv
            rw [World.cell?_of_block (w := w) (a := ⟨c, i, none⟩) (other c hcb)]
            exact M.holds.c c i v hv, fun c l hc => by
            have hcb : c ≠ b := fun e => by rw [e, hfree.g] at hc; cases hc
            rw [other c hcb]
            exact M.holds.g c l hc, M.holds.ap⟩ (fun _ _ _ _ => rfl) (fun _ _ => rfl)
          ⟨rfl, rfl, rfl, by rw [setRow_size]; exact Nat.le_refl _, fun c _ hc => other c fun e => hc (.inr e)⟩
          (fun t => ⟨fun c hc => other c fun e => by
            obtain ⟨h1, h2, _⟩ := nb t c hc
            exact M.disj t s h2 c h1 (by rw [e]; exact hbm), fun _ _ _ => rfl, fun _ _ => rfl⟩)
        obtain ⟨b3, hplace, hsub, hnod⟩ := OwnCs.place (w' := w.setRow b new) hown hus hfit (fun c hc => other c (fun e => by
          subst e
          rcases List.mem_append.1 hc with hc | hc
          · exact hnd'.1 hc
          · exact M.disj q s hqs c hc hbm))
        have m3 : ∀ c ∈ b3, c ∈ bs s ∨ c ∈ bs q := fun c hc => (hsub c hc).imp (fun h => by rw [hbs]; simp [h]) id
        have M4 := M3.retell (d := s) (x := .box bt (placeAt cs off xs)) (v := .pointer (some ⟨b, 0, none⟩)) (pb := b :: b3) hts
          ⟨b, _, b3, rfl, by rw [← hnew]; exact setRow_heap w b _ _ bt (0, 0) hh, hplace, rfl, hfree⟩ trivial
          (List.nodup_cons.2 ⟨fun hb => by
            rcases hsub b hb with hb | hb
            · exact hnd'.1 hb
            · exact M.disj q s hqs b hb hbm, hnod hnd'.2 (M.nodup q) fun c h1 h2 => M.disj q s hqs c h2 (by rw [hbs]; simp [h1])⟩)
          (fun t ht c hc hct => by
            obtain ⟨h1, h2, h3⟩ := nb t c hct
            rcases List.mem_cons.1 hc with rfl | hc
            · exact M.disj t s h2 c h1 hbm
            · rcases m3 c hc with hc | hc
              · exact M.disj t s h2 c h1 hc
              · exact M.disj t q h3 c h1 hc)
          (fun c hc => by
            rcases List.mem_cons.1 hc with rfl | hc
            · exact M.mine s c hbm
            · rcases m3 c hc with hc | hc
              · exact M.mine s c hc
              · exact M.mine q c hc)
          (fun c hc => by
            rw [setRow_size]
            rcases List.mem_cons.1 hc with rfl | hc
            · exact M.lt s c hbm
            · rcases m3 c hc with hc | hc
              · exact M.lt s c hc
              · exact M.lt q c hc)
        have he : lkPut (lkMod (lkMod g q .no) s .no) s (.box bt (placeAt cs off xs)) = lkPut (lkMod g q .no) s (.box bt (placeAt cs off xs)) := by
          funext t
          by_cases hts : t = s
          · subst hts
            exact lkPut_congr (by simp [lkMod, Ne.symm hqs, hg])
          · simp [lkPut, lkMod, hts]
        rw [he] at M4
        unfold Oper.wp
        rw [hrun]
        exact hn _ _ (by rw [hd]; exact ⟨_, _, M4⟩)
  · cases hc
end Go.X
namespace Go.X
open Go

def Direct (ops : Array Oper) (i j : Nat) : Prop := ∃ o, ops[i]? = some o ∧ ∃ e ∈ o.after, Region.binds .any e = true ∧ e.on = j
structure Order (ops : Array Oper) (l : List Nat) : Prop where
  nodup : l.Nodup
  mem : ∀ i, i ∈ l ↔ i < ops.size
  pre : ∀ a i r, l = a ++ i :: r → ∀ j, Direct ops i j → j ∈ a

theorem binds_any {md : Region.Mode} {e : Edge} (h : Region.binds .any e = true) : Region.binds md e = true := by
  unfold Region.binds at *
  cases hg : e.ground <;> rw [hg] at h <;> first | rfl | (simp at h)

theorem filter_lt {p q : Nat → Bool} : ∀ {l : List Nat}, (∀ x ∈ l, q x = true → p x = true) → (∃ x ∈ l, p x = true ∧ q x = false) → (l.filter q).length < (l.filter p).length
  | [], _, ⟨x, hx, _⟩ => by cases hx
  | y :: l, hs, ⟨x, hx, hp, hq⟩ => by
    have hle : (l.filter q).length ≤ (l.filter p).length := by
      clear hx
      induction l with
      | nil => simp
      | cons z l ih =>
        have ih := ih (fun x hx => hs x (by rcases List.mem_cons.1 hx with h | h <;> simp [h]))
        simp only [List.filter_cons]
        cases hqz : q z with
        | true => simp [hs z (by simp) hqz]; exact ih
        | false => cases p z <;> simp <;> omega
    rcases List.mem_cons.1 hx with rfl | hx
    · simp only [List.filter_cons, hp, hq]
      simp
      omega
    · have := filter_lt (l := l) (fun x hx => hs x (by simp [hx])) ⟨x, hx, hp, hq⟩
      simp only [List.filter_cons]
      cases hqz : q y with
      | true => simp [hs y (by simp) hqz]; exact this
      | false => cases p y <;> simp <;> omega

theorem split_last {α : Type} {d a r : List α} {x i : α} (h : d ++ [x] = a ++ i :: r) : (a = d ∧ i = x) ∨ ∃ r', d = a ++ i :: r' := by
  rcases List.eq_nil_or_concat r with rfl | ⟨r', y, rfl⟩
  · have := List.append_inj' (s₁ := d) (t₁ := [x]) (s₂ := a) (t₂ := [i]) h rfl
    exact .inl ⟨this.1.symm, by simpa using this.2.symm⟩
  · right
    refine ⟨r', ?_⟩
    rw [List.concat_eq_append] at h
    have h2 : d ++ [x] = (a ++ i :: r') ++ [y] := by rw [h]; simp
    exact (List.append_inj' h2 rfl).1

/-- every operation that a mode's edges name stands at a lower rank -/
def Ranked (ops : Array Oper) (md : Region.Mode) : Prop := ∃ rank : Nat → Nat, ∀ (i : Nat) (o : Oper), ops[i]? = some o → ∀ e : Edge, e ∈ o.after → Region.binds md e = true → rank e.on < rank i ∧ e.on < ops.size
theorem lin_go {ops : Array Oper} (md : Region.Mode) (hb : Ranked ops md) : ∀ (fuel t : Nat) (listed : Array Bool) (done : List Nat),
    listed.size = ops.size → done.Nodup → (∀ i, i ∈ done ↔ listed.getD i false = true) → (∀ a i r, done = a ++ i :: r → ∀ j, Direct ops i j → j ∈ a) →
    ((List.range ops.size).filter fun i => !listed.getD i false).length ≤ fuel → Order ops (done ++ Region.linearise.go md ops fuel t listed []) := by
  have full : ∀ (listed : Array Bool) (done : List Nat), listed.size = ops.size → done.Nodup → (∀ i, i ∈ done ↔ listed.getD i false = true) → (∀ a i r, done = a ++ i :: r → ∀ j, Direct ops i j → j ∈ a) →
      (∀ i, i < ops.size → listed.getD i false = true) → Order ops done := by
    intro listed done hz hn hm hp ha
    refine ⟨hn, fun i => ⟨fun hi => ?_, fun hi => (hm i).2 (ha i hi)⟩, hp⟩
    have := (hm i).1 hi
    rcases Nat.lt_or_ge i listed.size with h | h
    · omega
    · simp [Array.getElem?_eq_none h] at this
  intro fuel
  induction fuel with
  | zero =>
    intro t listed done hz hn hm hp hf
    simp only [Region.linearise.go, List.reverse_nil, List.append_nil]
    refine full listed done hz hn hm hp fun i hi => ?_
    have h0 : ((List.range ops.size).filter fun i => !listed.getD i false) = [] := List.eq_nil_of_length_eq_zero (by omega)
    have := List.filter_eq_nil_iff.1 h0 i (List.mem_range.2 hi)
    simpa using this
  | succ fuel ih =>
    intro t listed done hz hn hm hp hf
    simp only [Region.linearise.go]
    change Order ops (done ++ (match (Region.ready md ops listed)[t % (Region.ready md ops listed).length]? with
      | some i => Region.linearise.go md ops fuel (t / (Region.ready md ops listed).length) (listed.setIfInBounds i true) [i]
      | none => [].reverse))
    cases hi : (Region.ready md ops listed)[t % (Region.ready md ops listed).length]? with
    | none =>
      have hnil : Region.ready md ops listed = [] := by
        cases hr : Region.ready md ops listed with
        | nil => rfl
        | cons x xs =>
          rw [hr] at hi
          have hlt : t % (x :: xs).length < (x :: xs).length := Nat.mod_lt _ (by simp)
          simp at hi
          simp at hlt
          omega
      simp only [List.reverse_nil, List.append_nil]
      obtain ⟨rank, hb⟩ := hb
      refine full listed done hz hn hm hp fun i hlt => ?_
      generalize hr : rank i = r
      induction r using Nat.strongRecOn generalizing i with
      | _ r ihi =>
        refine Classical.byContradiction fun hc => ?_
        have hc : listed.getD i false = false := by simpa using hc
        have : i ∈ Region.ready md ops listed := by
          rw [mem_ready]
          refine ⟨?_, ops[i], by simp [hlt], fun e he hbd => ?_⟩
          · have : i < listed.size := by omega
            simp [this] at hc ⊢; exact hc
          · obtain ⟨h1, h2⟩ := hb i ops[i] (by simp [hlt]) e he hbd
            exact ihi (rank e.on) (by omega) e.on h2 rfl
        rw [hnil] at this
        cases this
    | some i =>
      simp only []
      rw [linearise_go_acc, List.reverse_singleton, ← List.append_assoc]
      have hr := List.mem_of_getElem? hi
      rw [mem_ready] at hr
      obtain ⟨h0, o, ho, hall⟩ := hr
      have hlt : i < ops.size := (Array.getElem?_eq_some_iff.1 ho).1
      have hl : i < listed.size := by omega
      have h0' : listed.getD i false = false := by simp [hl] at h0 ⊢; exact h0
      have hset : ∀ j, (listed.setIfInBounds i true).getD j false = true ↔ j = i ∨ listed.getD j false = true := by
        intro j
        by_cases hij : i = j
        · subst hij; simp [hl]
        · rw [getD_set_ne false hij]; simp [Ne.symm hij]
      refine ih _ _ _ (by simp [hz]) ?_ ?_ ?_ ?_
      · refine List.nodup_append.2 ⟨hn, by simp, fun x hx y hy => ?_⟩
        simp only [List.mem_singleton] at hy
        subst hy
        rintro rfl
        have := (hm x).1 hx
        rw [h0'] at this; cases this
      · intro j
        rw [hset j, List.mem_append, hm j]
        simp [or_comm]
      · intro a j r he k hk
        rcases split_last he with ⟨rfl, rfl⟩ | ⟨r', hr'⟩
        · obtain ⟨o', ho', e, he', hbd, rfl⟩ := hk
          rw [ho] at ho'; injection ho' with ho'; subst ho'
          exact (hm _).2 (hall e he' (binds_any hbd))
        · exact hp a j r' hr' k hk
      · have := filter_lt (p := fun i => !listed.getD i false) (q := fun j => !(listed.setIfInBounds i true).getD j false) (l := List.range ops.size) (fun x _ hx => by
          simp only [Bool.not_eq_true'] at hx ⊢
          cases hq : listed.getD x false with
          | false => rfl
          | true => rw [(hset x).2 (.inr hq)] at hx; cases hx) ⟨i, List.mem_range.2 hlt, by simp only [h0']; rfl, by simp only [(hset i).2 (.inl rfl)]; rfl⟩
        omega

theorem lin_order {ops : Array Oper} (md : Region.Mode) (hb : Ranked ops md) (t : Nat) : Order ops (Region.linearise md ops t) := by
  have := lin_go md hb ops.size t (Array.replicate ops.size false) [] (by simp) (by simp) (fun i => by
    rcases Nat.lt_or_ge i ops.size with h | h
    · simp [h]
    · simp [h]) (fun a i r h => by simp at h) (by
    refine Nat.le_trans (List.length_filter_le _ _) (by simp))
  simpa [Region.linearise] using this
theorem schedule_order {ops : Array Oper} (hb : ∀ md, Ranked ops md) (mixed : Bool) (t : Nat) : Order ops (Region.schedule mixed ops t) := by
  unfold Region.schedule
  split
  · exact lin_order _ (hb _) _
  · exact lin_order _ (hb _) _

/-- two rising lists with the same members are the same -/
theorem rising_eq : ∀ {l m : List Nat}, l.Pairwise (· < ·) → m.Pairwise (· < ·) → (∀ x, x ∈ l ↔ x ∈ m) → l = m
  | [], [], _, _, _ => rfl
  | [], y :: m, _, _, h => by have := (h y).2 (by simp); cases this
  | x :: l, [], _, _, h => by have := (h x).1 (by simp); cases this
  | x :: l, y :: m, hl, hm, h => by
    have h1 := List.pairwise_cons.1 hl
    have h2 := List.pairwise_cons.1 hm
    have hxy : x = y := by
      rcases List.mem_cons.1 ((h x).1 (by simp)) with e | e
      · exact e
      · rcases List.mem_cons.1 ((h y).2 (by simp)) with e' | e'
        · exact e'.symm
        · have := h2.1 x e; have := h1.1 y e'; omega
    subst hxy
    refine congrArg (x :: ·) (rising_eq h1.2 h2.2 fun z => ⟨fun hz => ?_, fun hz => ?_⟩)
    · rcases List.mem_cons.1 ((h z).1 (by simp [hz])) with e | e
      · have := h1.1 z hz; omega
      · exact e
    · rcases List.mem_cons.1 ((h z).2 (by simp [hz])) with e | e
      · have := h2.1 z hz; omega
      · exact e
end Go.X
