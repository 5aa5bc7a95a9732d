/- Part 5 of the proof of BackSums: The operations: stores. The operations: structs, arrays and slices built of parts. The operations: slices built of parts, and append. No conditions but those that each theorem names. -/
import Derived.Test.YthmecihkgdaffaaGreatDoorP04
namespace Go.X
open Go
variable {cx : Cx} {g : Lk} {o : Oper} {e : Eff}

theorem isOwnO_some {o : Option C} (ho : isOwnO o = true) : ∃ sz n f, o = some (.own sz n f) := by
  cases o with
  | none => simp [isOwnO] at ho
  | some cc => cases cc with
    | own sz n f => exact ⟨sz, n, f, rfl⟩
    | d x => simp [isOwnO] at ho
    | app sz n f => simp [isOwnO] at ho

/-- A row that is owned is written: its slot is told anew. ex: blocks that come in. -/
theorem SimW.upon {h : Hp} {bs : Nat → List Nat} {a : Act} {w w' : World} (M : SimW cx h bs g a w) {s k1 b : Nat} {y1 x : X.S} {pb ex : List Nat} (hs : g s = some (k1, y1))
    (other : ∀ c, c ≠ b → w'.heap[c]? = w.heap[c]?) (hsz : w'.heap.size = w.heap.size) (hos : w'.os = w.os) (htp : w'.tape = w.tape) (hou : w'.output = w.output)
    (hfree : Free h b) (hb : b ∈ bs s)
    (hx : ∀ v, a.tmps[s]? = some v → Tells h w' x v pb ∧ ∀ g a w, Refs g a w x v) (hn : pb.Nodup) (hps : ∀ c ∈ pb, c ∈ bs s ∨ c ∈ ex)
    (hex : ∀ c ∈ ex, ∀ t, c ∈ bs t → False) (hm : ∀ c ∈ ex, cx.w0.heap.size ≤ c ∨ c ∈ cx.lb) (hl : ∀ c ∈ ex, c < w.heap.size)
    (hbx : ∀ t cs', x = .box t cs' → ∃ cs, y1 = .box t cs)
    (hroots : ∀ c, isOwnO (atRoot (lkMod g s x) ⟨s, k1, c⟩) = true → ∃ sz n f f', atRoot g ⟨s, k1, c⟩ = some (.own sz n f) ∧ atRoot (lkMod g s x) ⟨s, k1, c⟩ = some (.own sz n f') ∧ rootV a w' ⟨s, k1, c⟩ = rootV a w ⟨s, k1, c⟩) :
    SimW cx h (fun t => if t = s then pb else bs t) (lkMod g s x) a w' := by
  have still : ∀ t, t ≠ s → Still h h w w' (bs t) := fun t ht =>
    ⟨fun c hc => other c fun e => M.disj t s ht c hc (by rw [e]; exact hb), fun _ _ _ => rfl, fun _ _ => rfl⟩
  have keep : ∀ s' k y, g s' = some (k, y) → ∃ k' y', lkMod g s x s' = some (k', y') ∧ k ≤ k' ∧ (k' = k → a.tmps[s']? = a.tmps[s']? ∧ (∀ t cs', y' = .box t cs' → ∃ cs, y = .box t cs)
      ∧ (∀ c k0, isOwnO (atRoot (lkMod g s x) ⟨s', k0, c⟩) = true → k0 = k → ∃ sz n f f', atRoot g ⟨s', k0, c⟩ = some (.own sz n f) ∧ atRoot (lkMod g s x) ⟨s', k0, c⟩ = some (.own sz n f') ∧ rootV a w' ⟨s', k0, c⟩ = rootV a w ⟨s', k0, c⟩)) := by
    intro s' k y hy
    by_cases hss : s' = s
    · subst hss
      rw [hs] at hy
      injection hy with hy
      injection hy with e1 e2
      subst e1; subst e2
      refine ⟨k1, x, by simp [lkMod, hs], Nat.le_refl _, fun _ => ⟨rfl, hbx, fun c k0 ho he => ?_⟩⟩
      subst he
      exact hroots c ho
    · have hg : lkMod g s x s' = g s' := by simp [lkMod, hss]
      refine ⟨k, y, by rw [hg, hy], Nat.le_refl _, fun _ => ⟨rfl, fun t cs' h => ⟨cs', h⟩, fun c k0 ho he => ?_⟩⟩
      obtain ⟨sz, n, f, hf⟩ := isOwnO_some ho
      refine ⟨sz, n, f, f, by rw [← atRoot_congr (r := ⟨s', k0, c⟩) hg]; exact hf, hf, ?_⟩
      cases c with
      | none => rfl
      | some i =>
        rw [atRoot_congr (r := ⟨s', k0, some i⟩) hg] at hf
        obtain ⟨u, hu, htu, _⟩ := M.slot s' k y hy
        unfold atRoot at hf
        rw [hy] at hf
        subst he
        simp only [beq_eq, decide_true, cond_true] at hf
        cases y with
        | box t cs =>
          obtain ⟨b', vs, bs', hv, hhb, ho', hbs, hfr⟩ := htu
          unfold rootV
          simp only [hu, hv]
          exact World.cell?_of_block (other b' fun e => M.disj s' s hss b' (by rw [hbs]; simp) (by rw [e]; exact hb))
        | one ag cs => simp at hf
        | tup xs => simp at hf
        | ref r => simp at hf
        | adr a b c => simp at hf
        | elt a b c => simp at hf
        | imm a b c => simp at hf
        | ifc a b c => simp at hf
        | itr a b => simp at hf
        | bld a b c => simp at hf
        | no => simp at hf
  refine ⟨M.le, M.newc, M.newg, ⟨fun c i v hv => ?_, fun c l hc => ?_, M.holds.ap⟩, ⟨hos.trans M.fr.os, htp.trans M.fr.tape, hou.trans M.fr.output, by rw [hsz]; exact M.fr.size, fun c hc hne => ?_⟩, M.defers, M.size, ?_, ?_, ?_, ?_, ?_, M.pins⟩
  · have hcb : c ≠ b := fun e => by rw [e, hfree.c i] at hv; cases hv
    rw [World.cell?_of_block (w := w) (a := ⟨c, i, none⟩) (other c hcb)]
    exact M.holds.c c i v hv
  · have hcb : c ≠ b := fun e => by rw [e, hfree.g] at hc; cases hc
    rw [other c hcb]
    exact M.holds.g c l hc
  · have hcb : c ≠ b := fun e => by
      rcases M.mine s b hb with h1 | h1
      · omega
      · exact hne (.inl (by rw [e]; exact h1))
    rw [other c hcb]
    exact M.fr.block c hc hne
  · intro t k y hy
    by_cases hts : t = s
    · subst hts
      simp only [lkMod, if_true, hs, Option.map_some, Option.some.injEq, Prod.mk.injEq] at hy
      obtain ⟨rfl, rfl⟩ := hy
      obtain ⟨u, hu, _⟩ := M.slot t k1 y1 hs
      obtain ⟨h1, h2⟩ := hx u hu
      exact ⟨u, hu, by simpa using h1, h2 _ _ _⟩
    · have hg : lkMod g s x t = g t := by simp [lkMod, hts]
      rw [hg] at hy
      obtain ⟨u, hu, h1, h2⟩ := M.slot t k y hy
      exact ⟨u, hu, by simpa [hts] using h1.keep (Hp.le.refl h) (still t hts), h2.keep keep⟩
  · intro t
    by_cases hts : t = s
    · simpa [hts] using hn
    · simpa [hts] using M.nodup t
  · intro t1 t2 hne c h1 h2
    by_cases e1 : t1 = s
    · subst e1
      simp only [if_true] at h1
      rw [if_neg (Ne.symm hne)] at h2
      rcases hps c h1 with h3 | h3
      · exact M.disj t1 t2 hne c h3 h2
      · exact hex c h3 t2 h2
    · rw [if_neg e1] at h1
      by_cases e2 : t2 = s
      · subst e2
        simp only [if_true] at h2
        rcases hps c h2 with h3 | h3
        · exact M.disj t1 t2 hne c h1 h3
        · exact hex c h3 t1 h1
      · rw [if_neg e2] at h2
        exact M.disj t1 t2 hne c h1 h2
  · intro t c hc
    by_cases hts : t = s
    · subst hts
      simp only [if_true] at hc
      rcases hps c hc with h3 | h3
      · exact M.mine t c h3
      · exact hm c h3
    · rw [if_neg hts] at hc; exact M.mine t c hc
  · intro t c hc
    rw [hsz]
    by_cases hts : t = s
    · subst hts
      simp only [if_true] at hc
      rcases hps c hc with h3 | h3
      · exact M.lt t c h3
      · exact hl c h3
    · rw [if_neg hts] at hc; exact M.lt t c hc

theorem SimW.write {h : Hp} {bs : Nat → List Nat} {a : Act} {w : World} (M : SimW cx h bs g a w) {s k1 b : Nat} {y1 x : X.S} {pb ex : List Nat} {new : Array Value} (hs : g s = some (k1, y1))
    (hfree : Free h b) (hb : b ∈ bs s)
    (hx : ∀ v, a.tmps[s]? = some v → Tells h (w.setRow b new) x v pb ∧ ∀ g a w, Refs g a w x v) (hn : pb.Nodup) (hps : ∀ c ∈ pb, c ∈ bs s ∨ c ∈ ex)
    (hex : ∀ c ∈ ex, ∀ t, c ∈ bs t → False) (hm : ∀ c ∈ ex, cx.w0.heap.size ≤ c ∨ c ∈ cx.lb) (hl : ∀ c ∈ ex, c < w.heap.size)
    (hbx : ∀ t cs', x = .box t cs' → ∃ cs, y1 = .box t cs)
    (hroots : ∀ c, isOwnO (atRoot (lkMod g s x) ⟨s, k1, c⟩) = true → ∃ sz n f f', atRoot g ⟨s, k1, c⟩ = some (.own sz n f) ∧ atRoot (lkMod g s x) ⟨s, k1, c⟩ = some (.own sz n f') ∧ rootV a (w.setRow b new) ⟨s, k1, c⟩ = rootV a w ⟨s, k1, c⟩) :
    SimW cx h (fun t => if t = s then pb else bs t) (lkMod g s x) a (w.setRow b new) :=
  M.upon hs (fun c hc => setRow_other w b c new hc) (setRow_size w b new) rfl rfl rfl hfree hb hx hn hps hex hm hl hbx hroots
theorem storeVar_run (hT : TabOk cx.P cx.T) {t : TypeId} (hk : kn cx.T t = true) {b off : Nat} {ag : Bool} {vs : List Value} {w : World} {cur : Array Value} {bt : TypeId} (hag : ag = aggK (cx.T t).k) (hl : vs.length = (cx.T t).size) (h1 : ∀ v ∈ vs, v.oneCell' = true)
    (hh : w.heap[b]? = some (.cells cur bt (0, 0))) (hfit : off + vs.length ≤ cur.size) :
    (storeVar t ⟨b, off, none⟩ (mkV ag vs)).run cx.P w = .ok () (w.setRow b (cur.toList.take off ++ vs ++ cur.toList.drop (off + vs.length)).toArray) := by
  have ty := hT.kn hk
  have hc : (mkV ag vs).cells.toList = vs := mkV_cells (fun hf => by rw [hl]; exact ty.one (by rw [← hag]; exact hf)) h1
  have hcs : (mkV ag vs).cells.size = (cx.T t).size := by rw [← hl, ← hc, Array.length_toList, hc]
  have hst := run_storeCells_at cx.P b off bt vs 0 cur w hh (by simpa using hfit) h1
  simp only [Nat.add_zero] at hst
  simp [storeVar, ty.sizeOf, hcs, hc, hst]

/-- cells laid into cells -/
theorem OwnCs.place {h : Hp} {w w' : World} {cs xs : List C} {vs us : List Value} {b1 b2 : List Nat} (h1 : OwnCs h w cs vs b1) (h2 : OwnCs h w xs us b2) {off : Nat} (hfit : off + xs.length ≤ cs.length)
    (hk : ∀ c ∈ b1 ++ b2, w'.heap[c]? = w.heap[c]?) : ∃ b3, OwnCs h w' (placeAt cs off xs) (vs.take off ++ us ++ vs.drop (off + us.length)) b3 ∧ (∀ c ∈ b3, c ∈ b1 ∨ c ∈ b2) ∧ (b1.Nodup → b2.Nodup → (∀ c ∈ b1, c ∈ b2 → False) → b3.Nodup) := by
  have hsp : OwnCs h w (cs.take off ++ ((cs.drop off).take xs.length ++ (cs.drop off).drop xs.length)) vs b1 := by
    rw [List.take_append_drop, List.take_append_drop]; exact h1
  obtain ⟨v1, v2, c1, c2, rfl, rfl, p1, p2⟩ := hsp.split
  obtain ⟨v3, v4, c3, c4, rfl, rfl, p3, p4⟩ := p2.split
  have l1 : v1.length = off := by rw [p1.length, List.length_take]; omega
  have l3 : v3.length = us.length := by rw [p3.length, h2.length, List.length_take, List.length_drop]; omega
  refine ⟨c1 ++ b2 ++ c4, ?_, ?_, ?_⟩
  · have e1 : (v1 ++ (v3 ++ v4)).take off = v1 := by rw [← l1]; exact List.take_left
    have e2 : (v1 ++ (v3 ++ v4)).drop (off + us.length) = v4 := by
      rw [← l1, ← l3, ← List.append_assoc, ← List.length_append]; exact List.drop_left
    rw [e1, e2]
    have e3 : placeAt cs off xs = cs.take off ++ xs ++ (cs.drop off).drop xs.length := by
      unfold placeAt; rw [List.drop_drop]
    rw [e3]
    have k : ∀ {l : List Nat}, (∀ c ∈ l, c ∈ c1 ++ (c3 ++ c4) ++ b2) → Still h h w w' l := fun hl => ⟨fun c hc => hk c (by have := hl c hc; simpa [List.mem_append] using this), fun _ _ _ => rfl, fun _ _ => rfl⟩
    exact ((OwnCs.keep (Hp.le.refl h) p1 (k fun c hc => by simp [hc])).append (OwnCs.keep (Hp.le.refl h) h2 (k fun c hc => by simp [hc]))).append (OwnCs.keep (Hp.le.refl h) p4 (k fun c hc => by simp [hc]))
  · intro c hc
    simp only [List.mem_append] at hc ⊢
    rcases hc with (hc | hc) | hc
    · exact .inl (.inl hc)
    · exact .inr hc
    · exact .inl (.inr (.inr hc))
  · intro n1 n2 hd
    have h5 := List.nodup_append.1 n1
    have h6 := List.nodup_append.1 h5.2.1
    refine List.nodup_append.2 ⟨List.nodup_append.2 ⟨h5.1, n2, fun x hx y hy he => hd x (by simp [hx]) (by rw [he]; exact hy)⟩, h6.2.1, fun x hx y hy he => ?_⟩
    rcases List.mem_append.1 hx with hx | hx
    · exact h5.2.2 x hx y (by simp [hy]) he
    · exact hd y (by simp [hy]) (by rw [← he]; exact hx)
theorem placeAt_get_lt {cs xs : List C} {off i : Nat} (hfit : off + xs.length ≤ cs.length) (hi : i < off ∨ off + xs.length ≤ i) : (placeAt cs off xs)[i]? = cs[i]? := by
  unfold placeAt
  rcases hi with hi | hi
  · rw [List.append_assoc, List.getElem?_append_left (by rw [List.length_take]; omega), List.getElem?_take, if_pos hi]
  · rw [List.getElem?_append_right (by simp; omega), List.getElem?_drop]
    congr 1
    simp
    omega
theorem placeAt_get_in {cs xs : List C} {off i : Nat} (hfit : off + xs.length ≤ cs.length) (h1 : off ≤ i) (h2 : i < off + xs.length) : (placeAt cs off xs)[i]? = xs[i - off]? := by
  unfold placeAt
  rw [List.append_assoc, List.getElem?_append_right (by rw [List.length_take]; omega), List.getElem?_append_left (by rw [List.length_take]; omega)]
  congr 1
  rw [List.length_take]
  omega

theorem good_store (hT : TabOk cx.P cx.T) (hd : o.dst = none) {t : TypeId} {x y : Operand} (ho : o.op = .store t x y) (hc : storeE cx.T g t x y = some e) : Good cx g o e := by
  unfold storeE at hc
  cases hk : kn cx.T t with
  | false => rw [hk] at hc; simp at hc
  | true =>
  rw [hk] at hc
  simp only [Bool.not_true, cond_false] at hc
  have ty := hT.kn hk
  split at hc
  · rename_i rd s k off sx ky ag xs hx hy
    cases hbx : boxAt g s k with
    | none => rw [hbx] at hc; cases hc
    | some p =>
      obtain ⟨bt, cs⟩ := p
      rw [hbx] at hc
      simp only at hc
      have hg := boxAt_spec hbx
      cases hq : (Nat.beq xs.length (cx.T t).size && (ag == aggK (cx.T t).k) && Nat.ble (off + xs.length) cs.length && !((cs.drop off).take xs.length).any C.isOwn && !xs.any C.isOwn) with
      | false => rw [hq] at hc; simp at hc
      | true =>
        rw [hq] at hc
        simp only [cond_true] at hc
        simp only [Bool.and_eq_true, Bool.not_eq_true', beq_iff_eq] at hq
        obtain ⟨⟨⟨⟨q1, q2⟩, q3⟩, q4⟩, q5⟩ := hq
        have hl := Nat.eq_of_beq_eq_true q1
        have hfit := Nat.le_of_ble_eq_true q3
        rintro a w ⟨h, bs, M⟩
        obtain ⟨ht, _, hsl⟩ := src_tells M hy
        obtain ⟨us, hus, hev, _⟩ := ht
        obtain ⟨_, hr, _⟩ := addrOf_tells M hx
        obtain ⟨b, vs, bs', hevx, hts, hh, hown, hbs, hfree⟩ := adr_box M hr hg
        have hul : us.length = xs.length := hus.length
        have hvl : vs.length = cs.length := hown.length
        have hrun : (execOp a.eval o).run cx.P w = .ok .skip (w.setRow b (vs.take off ++ us ++ vs.drop (off + us.length)).toArray) := by
          have := storeVar_run hT hk (b := b) (off := off) (ag := ag) (vs := us) (w := w) (cur := vs.toArray) (bt := bt) q2 (by rw [hul, hl]) hus.ones hh (by simp; omega)
          simp only at this
          simp [execOp, ho, Instr.storeAt, Instr.sureAddr, hevx, hev, this]
        -- the write, for whatever stands in the other slots
        have fin : ∀ (g1 : Lk) (bs1 : Nat → List Nat) (b2 : List Nat), SimW cx h bs1 g1 a w → g1 s = some (k, .box bt cs) → bs1 s = b :: bs' → OwnCs h w xs us b2 → b2.Nodup → (∀ c ∈ b2, ∀ t, c ∈ bs1 t → False) → (∀ c ∈ b2, cx.w0.heap.size ≤ c ∨ c ∈ cx.lb) → (∀ c ∈ b2, c < w.heap.size) →
            Sim cx (lkMod g1 s (.box bt (placeAt cs off xs))) a (w.setRow b (vs.take off ++ us ++ vs.drop (off + us.length)).toArray) := by
          intro g1 bs1 b2 M1 hg1 hbs1 hus1 hn2 hex hm hlt
          have hnd := M1.nodup s
          rw [hbs1] at hnd
          have hnd' := List.nodup_cons.1 hnd
          obtain ⟨b3, hplace, hsub, hnod⟩ := OwnCs.place (w' := w.setRow b (vs.take off ++ us ++ vs.drop (off + us.length)).toArray) hown hus1 hfit (fun c hc => setRow_other w b c _ (fun e => by
            subst e
            rcases List.mem_append.1 hc with hc | hc
            · exact hnd'.1 hc
            · exact hex c hc s (by rw [hbs1]; simp)))
          refine ⟨h, _, M1.write (b := b) (pb := b :: b3) (ex := b2) hg1 hfree (by rw [hbs1]; simp) ?_ ?_ ?_ hex hm hlt (fun t' cs' h => ⟨cs, by injection h with e1 _; subst e1; rfl⟩) ?_⟩
          · intro v hv
            rw [hts] at hv
            injection hv with hv
            exact ⟨⟨b, _, b3, hv.symm, setRow_heap w b _ _ bt (0, 0) hh, hplace, rfl, hfree⟩, fun _ _ _ => trivial⟩
          · refine List.nodup_cons.2 ⟨fun hb => ?_, hnod hnd'.2 hn2 fun c h1 h2 => hex c h2 s (by rw [hbs1]; simp [h1])⟩
            rcases hsub b hb with hb | hb
            · exact hnd'.1 hb
            · exact hex b hb s (by rw [hbs1]; simp)
          · intro c hc
            rcases List.mem_cons.1 hc with rfl | hc
            · exact .inl (by rw [hbs1]; simp)
            · rcases hsub c hc with hc | hc
              · exact .inl (by rw [hbs1]; simp [hc])
              · exact .inr hc
          · intro c hc
            unfold atRoot at hc ⊢
            simp only [lkMod, if_true, hg1, Option.map_some, beq_eq, decide_true, cond_true] at hc ⊢
            cases c with
            | none => simp [isOwnO] at hc
            | some i =>
              simp only at hc ⊢
              by_cases hi : i < off ∨ off + xs.length ≤ i
              · rw [placeAt_get_lt hfit hi] at hc ⊢
                obtain ⟨sz, n, f, hf⟩ := isOwnO_some hc
                refine ⟨sz, n, f, f, hf, hf, ?_⟩
                unfold rootV
                simp only [hts]
                rw [cell_of_row _ b i _ bt (0, 0) (setRow_heap w b _ _ bt (0, 0) hh), cell_of_row w b i _ bt (0, 0) hh]
                simp only [List.getElem?_toArray]
                rcases hi with hi | hi
                · rw [List.append_assoc, List.getElem?_append_left (by rw [List.length_take]; omega), List.getElem?_take, if_pos hi]
                · rw [List.getElem?_append_right (by simp; omega), List.getElem?_drop]
                  congr 1
                  simp
                  omega
              · rw [placeAt_get_in hfit (by omega) (by omega)] at hc
                obtain ⟨sz, n, f, hf⟩ := isOwnO_some hc
                have := List.any_eq_false.1 q5 _ (List.mem_of_getElem? hf)
                simp [C.isOwn] at this
        cases hal : xs.all C.isD with
        | true =>
          rw [hal] at hc
          simp only [cond_true, Option.some.injEq] at hc
          subst hc
          have := hus.plainBs hal
          rw [this] at hus
          refine ⟨_, _, undef, hrun, .inr ⟨rfl, rfl⟩, ?_⟩
          rw [hd]
          exact fin g bs [] M hg hbs hus List.nodup_nil (fun c hc => by cases hc) (fun c hc => by cases hc) (fun c hc => by cases hc)
        | false =>
          rw [hal] at hc
          simp only [cond_false] at hc
          cases sx with
          | some q =>
            simp only at hc
            rw [beq_eq] at hc
            by_cases hqs : q = s
            · simp [hqs] at hc
            · simp only [hqs, decide_false, cond_false, Option.some.injEq] at hc
              subst hc
              obtain ⟨hgq, hvq⟩ := hsl q rfl
              have M1 := M.mod hgq (x := .no) (pb := []) (fun u hu => ⟨rfl, trivial⟩) List.nodup_nil (fun b hb => by cases hb) (fun t cs' h => by cases h) (fun c hc => by rw [noOwn_no] at hc; cases hc)
              have hcomm : lkMods g [(s, .box bt (placeAt cs off xs)), (q, .no)] = lkMod (lkMod g q .no) s (.box bt (placeAt cs off xs)) := by
                funext r
                simp only [lkMods, lkMod]
                by_cases h1 : r = q
                · subst h1; simp [hqs]
                · by_cases h2 : r = s <;> simp [h1, h2, Ne.symm hqs]
              refine ⟨_, _, undef, hrun, .inr ⟨rfl, rfl⟩, ?_⟩
              rw [hd]
              show Sim cx (lkMods g _) a _
              rw [hcomm]
              refine fin _ _ (bs q) M1 (by simp [lkMod, Ne.symm hqs, hg]) (by simp [Ne.symm hqs, hbs]) hus (M.nodup q) (fun c hc r hr => ?_) (M.mine q) (M.lt q)
              by_cases hrq : r = q
              · rw [if_pos hrq] at hr; cases hr
              · rw [if_neg hrq] at hr; exact M.disj q r (Ne.symm hrq) c hc hr
          | none =>
            simp only [Option.some.injEq] at hc
            subst hc
            refine ⟨_, _, undef, hrun, .inr ⟨rfl, rfl⟩, ?_⟩
            rw [hd]
            exact fin g bs [] M hg hbs hus List.nodup_nil (fun c hc => by cases hc) (fun c hc => by cases hc) (fun c hc => by cases hc)
  · rename_i rd r j off sx ky ag xs hx hy
    split at hc
    · rename_i sz n f hat
      cases hq : (Nat.beq xs.length (cx.T t).size && (ag == aggK (cx.T t).k) && Nat.ble (off + xs.length) sz && !xs.any C.isOwn) with
      | false => rw [hq] at hc; simp at hc
      | true =>
        rw [hq] at hc
        simp only [cond_true] at hc
        simp only [Bool.and_eq_true, Bool.not_eq_true', beq_iff_eq] at hq
        obtain ⟨⟨⟨q1, q2⟩, q3⟩, q4⟩ := hq
        have hl := Nat.eq_of_beq_eq_true q1
        have hfit := Nat.le_of_ble_eq_true q3
        cases hsr : setRoot g r (.own sz n (updF f j off (xs.map C.plain))) with
        | none => rw [hsr] at hc; cases hc
        | some m =>
          obtain ⟨ms, mx⟩ := m
          rw [hsr] at hc
          simp only [Option.some.injEq] at hc
          subst hc
          rintro a w ⟨h, bs, M⟩
          obtain ⟨ht, _, hsl⟩ := src_tells M hy
          obtain ⟨us, hus0, hev, _⟩ := ht
          have hus := hus0.view q4
          obtain ⟨_, hr, _⟩ := addrOf_tells M hx
          obtain ⟨k, y', hy', _, hv⟩ := hr
          obtain ⟨rv, bb, hrv, hown, hsub, y2, hg2⟩ := own_at M hat
          rw [hy'] at hg2
          injection hg2 with hg2
          injection hg2 with e1 e2
          subst e2
          obtain ⟨b, p, len, cap, h1, h2, hj⟩ := hv e1 sz n f hat
          rw [hrv] at h1
          injection h1 with h1
          obtain ⟨b', p', cap', cells, et, h3, hn, hh, hcs, hf, hbb, hfree⟩ := hown
          rw [h1] at h3
          injection h3 with h3 h3a h3b
          obtain rfl : n = len := h3a.symm
          injection h3 with h3
          injection h3 with h3 h3p _
          subst h3
          subst h3p
          subst h3b
          subst hbb
          have hul : us.length = xs.length := by rw [hus.length]; simp
          have hjs : j * sz + sz ≤ n * sz := by
            have : (j + 1) * sz ≤ n * sz := Nat.mul_le_mul_right _ hj
            rw [Nat.add_mul] at this
            omega
          have hns : p + n * sz ≤ cells.size := by have := Nat.mul_le_mul_right sz hn; omega
          have hrun : (execOp a.eval o).run cx.P w = .ok .skip (w.setRow b (cells.toList.take (p + (j * sz + off)) ++ us ++ cells.toList.drop (p + (j * sz + off) + us.length)).toArray) := by
            have := storeVar_run hT hk (b := b) (off := p + (j * sz + off)) (ag := ag) (vs := us) (w := w) (cur := cells) (bt := et) q2 (by rw [hul, hl]) hus.ones hh (by omega)
            simp [execOp, ho, Instr.storeAt, Instr.sureAddr, h2, hev, this]
          let w' := w.setRow b (cells.toList.take (p + (j * sz + off)) ++ us ++ cells.toList.drop (p + (j * sz + off) + us.length)).toArray
          have hnew : OwnC h w' (.own sz n (updF f j off (xs.map C.plain))) rv [b] := by
            refine ⟨b, p, cap, _, et, h1, hn, setRow_heap w b _ _ et (0, 0) hh, by simp; omega, fun j' i hj' hi => ?_, rfl, hfree⟩
            have get : ∀ q, (cells.toList.take (p + (j * sz + off)) ++ us ++ cells.toList.drop (p + (j * sz + off) + us.length))[q]? = if p + (j * sz + off) ≤ q ∧ q < p + (j * sz + off) + us.length then us[q - (p + (j * sz + off))]? else cells[q]? := by
              intro q
              by_cases hp1 : q < p + (j * sz + off)
              · rw [if_neg (by omega), List.append_assoc, List.getElem?_append_left (by rw [List.length_take, Array.length_toList]; omega), List.getElem?_take, if_pos hp1]
                simp
              · by_cases hp2 : q < p + (j * sz + off) + us.length
                · rw [if_pos (by omega), List.append_assoc, List.getElem?_append_right (by rw [List.length_take, Array.length_toList]; omega), List.getElem?_append_left (by rw [List.length_take, Array.length_toList]; omega)]
                  congr 1
                  rw [List.length_take, Array.length_toList]; omega
                · rw [if_neg (by omega), List.getElem?_append_right (by simp; omega), List.getElem?_drop]
                  simp only [Array.getElem?_toList]
                  congr 1
                  simp
                  omega
            simp only [List.getElem?_toArray, get]
            by_cases hin : j' = j ∧ off ≤ i ∧ i < off + xs.length
            · obtain ⟨rfl, hi1, hi2⟩ := hin
              rw [if_pos (by omega)]
              have hidx : p + (j' * sz + i) - (p + (j' * sz + off)) = i - off := by omega
              rw [hidx]
              have hlt : i - off < us.length := by omega
              refine ⟨us[i - off], List.getElem?_eq_getElem hlt, ?_⟩
              have hlt2 : i - off < (xs.map C.plain).length := by simp; omega
              obtain ⟨u, bu, hu, hou, _⟩ := hus.at (i := i - off) (List.getElem?_eq_getElem hlt2)
              rw [List.getElem?_eq_getElem hlt] at hu
              injection hu with hu
              have hD : ∃ z, (xs.map C.plain)[i - off] = .d z := by
                have hm : xs[i - off]'(by simpa using hlt2) ∈ xs := List.getElem_mem _
                have := List.any_eq_false.1 q4 _ hm
                simp only [List.getElem_map]
                cases hcc : xs[i - off]'(by simpa using hlt2) with
                | d z => exact ⟨z, rfl⟩
                | own _ _ _ => rw [hcc] at this; simp [C.isOwn] at this
                | app _ _ _ => exact ⟨_, rfl⟩
              obtain ⟨z, hz⟩ := hD
              have hval : updF f j' off (xs.map C.plain) j' i = z := by
                unfold updF
                rw [if_pos ⟨rfl, hi1, by simpa using hi2⟩]
                have : (xs.map C.plain).getD (i - off) nilC = (xs.map C.plain)[i - off] := by simp only [List.getD, List.getElem?_eq_getElem hlt2, Option.getD_some]
                rw [this, hz]; rfl
              rw [hval, hu]
              rw [hz] at hou
              exact hou.1
            · have hval : updF f j off (xs.map C.plain) j' i = f j' i := by
                unfold updF
                rw [if_neg (by simpa using hin)]
              rw [hval, if_neg]
              · exact hf j' i hj' hi
              · intro hp
                apply hin
                by_cases hjj : j' = j
                · exact ⟨hjj, by subst hjj; omega, by subst hjj; omega⟩
                · exfalso
                  rcases Nat.lt_or_gt_of_ne hjj with hlt | hgt
                  · have : (j' + 1) * sz ≤ j * sz := Nat.mul_le_mul_right _ hlt
                    rw [Nat.add_mul] at this
                    omega
                  · have : (j + 1) * sz ≤ j' * sz := Nat.mul_le_mul_right _ hgt
                    rw [Nat.add_mul] at this
                    omega
          refine ⟨_, _, undef, hrun, .inr ⟨rfl, rfl⟩, ?_⟩
          rw [hd]
          show Sim cx (lkMod g ms mx) a w'
          have hbr : b ∈ bs r.s := hsub b (by simp)
          have hts := hrv
          unfold setRoot at hsr
          rw [hy'] at hsr
          unfold atRoot at hat
          rw [hy'] at hat
          subst e1
          simp only [beq_eq, decide_true, cond_true] at hat
          cases hrc : r.c with
          | none =>
            rw [hrc] at hsr hat
            cases y' with
            | one ag' cs' =>
              cases ag' with
              | true => simp at hat
              | false =>
                match cs', hat, hsr with
                | [c], hat, hsr =>
                  injection hat with hat
                  subst hat
                  simp only [Option.some.injEq, Prod.mk.injEq] at hsr
                  obtain ⟨rfl, rfl⟩ := hsr
                  unfold rootV at hrv
                  rw [hrc] at hrv
                  simp only at hrv
                  refine ⟨h, _, M.write (b := b) (pb := [b]) (ex := []) hy' hfree hbr (fun v hv => ?_) (by simp) (fun c hc => by simp only [List.mem_singleton] at hc; subst hc; exact .inl hbr) (fun c hc => by cases hc) (fun c hc => by cases hc) (fun c hc => by cases hc) (fun t cs' h => by cases h) (fun c hc => ?_)⟩
                  · rw [hrv] at hv
                    injection hv with hv
                    subst hv
                    exact ⟨one_own hnew, fun _ _ _ => trivial⟩
                  · unfold atRoot at hc ⊢
                    simp only [lkMod, if_true, hy', Option.map_some, beq_eq, decide_true, cond_true] at hc ⊢
                    cases c with
                    | none => exact ⟨sz, n, f, _, rfl, rfl, rfl⟩
                    | some i => simp [isOwnO] at hc
                | [], hat, _ => simp at hat
                | _ :: _ :: _, hat, _ => simp at hat
            | tup xs => simp at hat
            | box t cs => simp at hat
            | ref r => simp at hat
            | adr s k o => simp at hat
            | elt r j o => simp at hat
            | imm sz o e => simp at hat
            | ifc a b c => simp at hat
            | itr a b => simp at hat
            | bld a b c => simp at hat
            | no => simp at hat
          | some i =>
            rw [hrc] at hsr hat
            cases y' with
            | box bt cs' =>
              simp only [Option.some.injEq, Prod.mk.injEq] at hsr
              obtain ⟨rfl, rfl⟩ := hsr
              obtain ⟨u, hu, ⟨b0, vs, bs0, hp0, hh0, ho0, hbs0, hf0⟩, _⟩ := M.slot r.s _ _ hy'
              unfold rootV at hrv
              rw [hrc] at hrv
              simp only [hu, hp0] at hrv
              rw [cell_of_row w b0 i _ bt (0, 0) hh0] at hrv
              have hnd := M.nodup r.s
              rw [hbs0] at hnd
              have hnd' := List.nodup_cons.1 hnd
              have hltc := (List.getElem?_eq_some_iff.1 hat).1
              have hspl : cs' = cs'.take i ++ (.own sz n f :: cs'.drop (i + 1)) := by
                rw [← (List.getElem?_eq_some_iff.1 hat).2, ← List.drop_eq_getElem_cons hltc, List.take_append_drop]
              rw [hspl] at ho0
              obtain ⟨v1, v2, c1, c2, rfl, rfl, g1, g2⟩ := ho0.split
              obtain ⟨u2, v3, c3, c4, rfl, rfl, g3, g4⟩ := g2
              have hoff : v1.length = i := by rw [g1.length, List.length_take]; omega
              have hu2 : u2 = rv := by
                simp only [List.getElem?_toArray] at hrv
                rw [List.getElem?_append_right (by omega), hoff] at hrv
                simpa using hrv
              subst hu2
              have hc3 : c3 = [b] := by
                obtain ⟨b9, _, _, _, _, h9, _, _, _, _, h10, _⟩ := g3
                rw [h1] at h9
                injection h9 with h9 _ _
                injection h9 with h9
                injection h9 with h9 _ _
                subst h9; exact h10
              subst hc3
              have hb0 : b ≠ b0 := fun e => hnd'.1 (by subst e; simp)
              have hset : cs'.set i (.own sz n (updF f j off (xs.map C.plain))) = cs'.take i ++ (.own sz n (updF f j off (xs.map C.plain)) :: cs'.drop (i + 1)) := by
                rw [List.set_eq_take_append_cons_drop, if_pos hltc]
              have hn1 := List.nodup_append.1 hnd'.2
              have hn2 := List.nodup_append.1 hn1.2.1
              have st : ∀ {l : List Nat}, (∀ c ∈ l, c ≠ b) → Still h h w w' l := fun hl => ⟨fun c hc => setRow_other w b c _ (hl c hc), fun _ _ _ => rfl, fun _ _ => rfl⟩
              refine ⟨h, _, M.write (b := b) (pb := b0 :: (c1 ++ ([b] ++ c4))) (ex := []) hy' hfree hbr (fun v hv => ?_) hnd (fun c hc => .inl (by rw [hbs0]; exact hc)) (fun c hc => by cases hc) (fun c hc => by cases hc) (fun c hc => by cases hc) (fun t' cs9 h => ⟨cs', by injection h with e1 _; subst e1; rfl⟩) (fun c hc => ?_)⟩
              · rw [hu] at hv
                injection hv with hv
                refine ⟨⟨b0, v1 ++ u2 :: v3, c1 ++ ([b] ++ c4), by rw [← hv, hp0], by rw [setRow_other w b b0 _ (Ne.symm hb0)]; exact hh0, ?_, rfl, hf0⟩, fun _ _ _ => trivial⟩
                rw [hset]
                exact (g1.keep (Hp.le.refl h) (st fun c hc e => hn1.2.2 c hc b (by simp) e)).append ⟨u2, v3, [b], c4, rfl, rfl, hnew, g4.keep (Hp.le.refl h) (st fun c hc e => hn2.2.2 b (by simp) c hc e.symm)⟩
              · unfold atRoot at hc ⊢
                simp only [lkMod, if_true, hy', Option.map_some, beq_eq, decide_true, cond_true] at hc ⊢
                cases c with
                | none => simp [isOwnO] at hc
                | some i2 =>
                  simp only at hc ⊢
                  have hrr : rootV a w' ⟨r.s, r.k, some i2⟩ = rootV a w ⟨r.s, r.k, some i2⟩ := by
                    unfold rootV
                    simp only [hu, hp0]
                    exact World.cell?_of_block (setRow_other w b b0 _ (Ne.symm hb0))
                  by_cases hi : i2 = i
                  · subst hi
                    rw [List.getElem?_set_self hltc]
                    exact ⟨sz, n, f, _, hat, rfl, hrr⟩
                  · rw [List.getElem?_set_ne (Ne.symm hi)] at hc ⊢
                    obtain ⟨sz2, n2, f2, hf2⟩ := isOwnO_some hc
                    exact ⟨sz2, n2, f2, f2, hf2, hf2, hrr⟩
            | one ag cs => simp at hat
            | tup xs => simp at hat
            | ref r => simp at hat
            | adr s k o => simp at hat
            | elt r j o => simp at hat
            | imm sz o e => simp at hat
            | ifc a b c => simp at hat
            | itr a b => simp at hat
            | bld a b c => simp at hat
            | no => simp at hat
    · cases hc
  · cases hc
end Go.X
namespace Go.X
open Go
variable {cx : Cx} {g : Lk} {o : Oper} {e : Eff}

/-- slots that gave up what they had -/
structure Gone (g : Lk) (md : List (Nat × S)) : Prop where
  no : ∀ m ∈ md, m.2 = .no ∧ (g m.1).isSome = true
  nodup : (md.map Prod.fst).Nodup
theorem lkMods_gone : ∀ {md : List (Nat × S)} {g : Lk}, Gone g md → ∀ t, lkMods g md t = if t ∈ md.map Prod.fst then (g t).map fun p => (p.1, S.no) else g t
  | [], _, _, t => by simp [lkMods]
  | (q, x) :: md, g, hg, t => by
    obtain ⟨h1, h2⟩ := hg
    have hx : x = .no := (h1 (q, x) (by simp)).1
    subst hx
    have hn := List.nodup_cons.1 (by simpa using h2 : (q :: md.map Prod.fst).Nodup)
    have hg' : Gone (lkMod g q .no) md := ⟨fun m hm => ⟨(h1 m (by simp [hm])).1, by
      have := (h1 m (by simp [hm])).2
      unfold lkMod
      split
      · rw [Option.isSome_map]; rename_i h; rw [← h]; exact this
      · exact this⟩, hn.2⟩
    rw [lkMods, lkMods_gone hg' t]
    by_cases ht : t ∈ md.map Prod.fst
    · have : t ≠ q := fun e => hn.1 (e ▸ ht)
      simp [ht, lkMod, this]
    · by_cases htq : t = q
      · subst htq; simp [ht, lkMod]
      · simp [ht, lkMod, htq]
theorem SimW.gone : ∀ {md : List (Nat × X.S)} {g : Lk} {h : Hp} {bs : Nat → List Nat} {a : Act} {w : World}, SimW cx h bs g a w → Gone g md →
    SimW cx h (fun s => if s ∈ md.map Prod.fst then [] else bs s) (lkMods g md) a w
  | [], g, h, bs, a, w, M, _ => by simpa [lkMods] using M
  | (q, x) :: md, g, h, bs, a, w, M, hg => by
    obtain ⟨h1, h2⟩ := hg
    have hx : x = .no := (h1 (q, x) (by simp)).1
    subst hx
    have hn := List.nodup_cons.1 (by simpa using h2 : (q :: md.map Prod.fst).Nodup)
    have hq := (h1 (q, .no) (by simp)).2
    cases hgq : g q with
    | none => rw [hgq] at hq; cases hq
    | some p =>
      have M1 := M.mod (k1 := p.1) (y1 := p.2) hgq (x := .no) (pb := []) (fun u hu => ⟨rfl, trivial⟩) List.nodup_nil (fun b hb => by cases hb) (fun t cs' h => by cases h) (fun c hc => by rw [noOwn_no] at hc; cases hc)
      have hg' : Gone (lkMod g q .no) md := ⟨fun m hm => ⟨(h1 m (by simp [hm])).1, by
        have := (h1 m (by simp [hm])).2
        unfold lkMod
        split
        · rw [Option.isSome_map]; rename_i h; rw [← h]; exact this
        · exact this⟩, hn.2⟩
      have M2 := M1.gone hg'
      have he : (fun s => if s ∈ md.map Prod.fst then [] else if s = q then [] else bs s) = fun s => if s ∈ ((q, X.S.no) :: md).map Prod.fst then [] else bs s := by
        funext s
        by_cases h3 : s ∈ md.map Prod.fst
        · simp only [h3, if_true, List.map_cons, List.mem_cons, or_true]
        · by_cases h4 : s = q
          · subst h4; simp [h3]
          · simp [h3, h4]
      rw [← he]; exact M2

/-- the machine's fill, of one part -/
theorem fill_fold : ∀ (us : List Value) (k off : Nat) (cur : Array Value), off + k + us.length ≤ cur.size →
    (us.toArray.zipIdx k).foldl (fun cs (p : Value × Nat) => cs.setIfInBounds (off + p.2) p.1) cur = (cur.toList.take (off + k) ++ us ++ cur.toList.drop (off + k + us.length)).toArray
  | [], k, off, cur, _ => by rw [← Array.foldl_toList]; simp
  | u :: us, k, off, cur, hl => by
    simp only [List.length_cons] at hl
    have ih := fill_fold us (k + 1) off (cur.setIfInBounds (off + k) u) (by simp; omega)
    have e1 : ((u :: us).toArray.zipIdx k).foldl (fun cs (p : Value × Nat) => cs.setIfInBounds (off + p.2) p.1) cur = (us.toArray.zipIdx (k + 1)).foldl (fun cs (p : Value × Nat) => cs.setIfInBounds (off + p.2) p.1) (cur.setIfInBounds (off + k) u) := by
      simp only [← Array.foldl_toList, Array.toList_zipIdx, List.zipIdx_cons, List.foldl_cons]
    rw [e1, ih]
    apply Array.ext'
    have h1 : off + k < cur.toList.length := by rw [Array.length_toList]; omega
    have hA : (cur.toList.take (off + k)).length = off + k := by rw [List.length_take]; omega
    simp only [Array.toList_setIfInBounds]
    rw [List.set_eq_take_append_cons_drop, if_pos h1]
    have t1 : (cur.toList.take (off + k) ++ u :: cur.toList.drop (off + k + 1)).take (off + (k + 1)) = cur.toList.take (off + k) ++ [u] := by
      rw [List.take_append, hA, List.take_of_length_le (by omega), show off + (k + 1) - (off + k) = 1 by omega]
      rfl
    have t2 : (cur.toList.take (off + k) ++ u :: cur.toList.drop (off + k + 1)).drop (off + (k + 1) + us.length) = cur.toList.drop (off + k + (us.length + 1)) := by
      rw [List.drop_append, hA, List.drop_of_length_le (by omega), show off + (k + 1) + us.length - (off + k) = us.length + 1 by omega, List.drop_succ_cons, List.drop_drop]
      simp only [List.nil_append]
      congr 1
      omega
    rw [t1, t2]
    simp

theorem fill_run {place : Nat → Option (Nat × Nat)} {i off n : Nat} {ag : Bool} {vs us : List Value} {rest : List (Nat × Value)} (hp : place i = some (off, n)) (hl : us.length = n) (hfit : off + n ≤ vs.length) (h1 : ag = false → us.length = 1) (ho : ∀ v ∈ us, v.oneCell' = true) :
    Instr.fill place vs.toArray ((i, mkV ag us) :: rest) = Instr.fill place (vs.take off ++ us ++ vs.drop (off + us.length)).toArray rest := by
  have hc := mkV_cells h1 ho
  have hca : (mkV ag us).cells = us.toArray := by apply Array.ext'; rw [hc]
  simp only [Instr.fill, hp, hca, List.size_toArray, hl]
  rw [if_neg (by simp; omega)]
  have := fill_fold us 0 off vs.toArray (by simp; omega)
  simp only [Nat.add_zero] at this
  rw [← hl]
  exact congrArg (fun z => Instr.fill place z rest) this

/-- parts laid into cells, by the machine and by the abstract one -/
theorem fill_tells {h : Hp} {bs : Nat → List Nat} {a : Act} {w : World} (M : SimW cx h bs g a w) {place : Nat → Option (Nat × Nat)} {pl : Bool} :
    ∀ {ps : List (Nat × Operand)} {rd : List Nat} {md : List (Nat × X.S)} {cs : List C} {rd' : List Nat} {md' : List (Nat × X.S)} {cs' : List C} {vs : List Value} {bl : List Nat},
    fillE pl g place ps rd md cs = some (rd', md', cs') → OwnCs h w cs vs bl → bl.Nodup → Gone g md → (∀ b ∈ bl, ∃ q, q ∈ md.map Prod.fst ∧ b ∈ bs q) →
    ∃ vs' bl', Instr.fill place vs.toArray (ps.map fun p => (p.1, a.eval p.2)) = some vs'.toArray ∧ OwnCs h w cs' vs' bl' ∧ bl'.Nodup ∧ Gone g md' ∧ (∀ b ∈ bl', ∃ q, q ∈ md'.map Prod.fst ∧ b ∈ bs q)
  | [], rd, md, cs, rd', md', cs', vs, bl, hf, ho, hn, hg, hb => by
    simp only [fillE, Option.some.injEq, Prod.mk.injEq] at hf
    obtain ⟨rfl, rfl, rfl⟩ := hf
    exact ⟨vs, bl, by simp [Instr.fill], ho, hn, hg, hb⟩
  | (i, x) :: ps, rd, md, cs, rd', md', cs', vs, bl, hf, ho, hn, hg, hb => by
    simp only [fillE] at hf
    split at hf
    · rename_i off n s k ag xs hp hs
      cases hq : (Nat.beq xs.length n && Nat.ble (off + n) cs.length) with
      | false => rw [hq] at hf; simp at hf
      | true =>
        rw [hq] at hf
        simp only [cond_true] at hf
        simp only [Bool.and_eq_true] at hq
        have hl := Nat.eq_of_beq_eq_true hq.1
        have hfit := Nat.le_of_ble_eq_true hq.2
        obtain ⟨ht, _, hsl⟩ := src_tells M hs
        obtain ⟨us, hus, hev, hone⟩ := ht
        have hul : us.length = xs.length := hus.length
        have hvl : vs.length = cs.length := ho.length
        have step : ∀ (xs : List C) (b2 : List Nat) (md2 : List (Nat × X.S)) (rd2 : List Nat), us.length = xs.length → OwnCs h w xs us b2 → b2.Nodup → (∀ b ∈ bl, b ∈ b2 → False) → Gone g md2 → (∀ b, b ∈ bl ∨ b ∈ b2 → ∃ q, q ∈ md2.map Prod.fst ∧ b ∈ bs q) →
            fillE pl g place ps rd2 md2 (placeAt cs off xs) = some (rd', md', cs') →
            ∃ vs' bl', Instr.fill place vs.toArray (((i, x) :: ps).map fun p => (p.1, a.eval p.2)) = some vs'.toArray ∧ OwnCs h w cs' vs' bl' ∧ bl'.Nodup ∧ Gone g md' ∧ (∀ b ∈ bl', ∃ q, q ∈ md'.map Prod.fst ∧ b ∈ bs q) := by
          intro xs2 b2 md2 rd2 hul2 h2 hn2 hd2 hg2 hb2 hf2
          obtain ⟨b3, hpl, hsub, hnod⟩ := OwnCs.place (w' := w) (off := off) ho h2 (by omega) (fun c _ => rfl)
          obtain ⟨vs', bl', e1, e2, e3, e4, e5⟩ := fill_tells M hf2 hpl (hnod hn hn2 hd2) hg2 (fun b hb => hb2 b (hsub b hb))
          refine ⟨vs', bl', ?_, e2, e3, e4, e5⟩
          have g1 : us.length = n := by omega
          have g2 : off + n ≤ vs.length := by omega
          rw [List.map_cons, hev, fill_run hp g1 g2 (fun hf => by rw [hul]; exact hone hf) hus.ones]
          exact e1
        cases hal : xs.all C.isD with
        | true =>
          rw [hal] at hf
          simp only [cond_true] at hf
          have := hus.plainBs hal
          rw [this] at hus
          exact step xs [] md _ hul hus List.nodup_nil (fun b _ hb => by cases hb) hg (fun b hb' => hb b (hb'.resolve_right (by simp))) hf
        | false =>
          rw [hal] at hf
          simp only [cond_false] at hf
          cases pl with
          | true =>
            simp only [cond_true] at hf
            cases hao : xs.any C.isOwn with
            | true => rw [hao] at hf; simp at hf
            | false =>
              rw [hao] at hf
              simp only [cond_false] at hf
              exact step (xs.map C.plain) [] md _ (by simp [hul]) (hus.view hao) List.nodup_nil (fun b _ hb => by cases hb) hg (fun b hb' => hb b (hb'.resolve_right (by simp))) hf
          | false =>
          simp only [cond_false] at hf
          cases s with
          | some q =>
            simp only at hf
            cases hany : md.any (fun m => Nat.beq m.1 q) with
            | true => rw [hany] at hf; simp at hf
            | false =>
              rw [hany] at hf
              simp only [cond_false] at hf
              obtain ⟨hgq, hvq⟩ := hsl q rfl
              have hqn : q ∉ md.map Prod.fst := by
                intro hm
                obtain ⟨m, hm2, hm3⟩ := List.mem_map.1 hm
                have := List.any_eq_false.1 hany m hm2
                rw [hm3] at this
                simp at this
              refine step xs (bs q) ((q, .no) :: md) _ hul hus (M.nodup q) (fun b h1 h2 => ?_) ⟨fun m hm => ?_, ?_⟩ (fun b hb' => ?_) hf
              · obtain ⟨q', hq', hbq⟩ := hb b h1
                exact M.disj q' q (fun e => hqn (e ▸ hq')) b hbq h2
              · rcases List.mem_cons.1 hm with rfl | hm
                · exact ⟨rfl, by rw [hgq]; rfl⟩
                · exact hg.no m hm
              · simpa using ⟨fun x hx => hqn (List.mem_map.2 ⟨_, hx, rfl⟩), hg.nodup⟩
              · rcases hb' with hb' | hb'
                · obtain ⟨q', hq', hbq⟩ := hb b hb'
                  exact ⟨q', by simp only [List.map_cons, List.mem_cons]; exact .inr hq', hbq⟩
                · exact ⟨q, by simp, hb'⟩
          | none =>
            cases hao : xs.any C.isOwn with
            | true => rw [hao] at hf; simp at hf
            | false =>
              rw [hao] at hf
              simp only [cond_false] at hf
              exact step xs [] md _ hul hus List.nodup_nil (fun b _ hb => by cases hb) hg (fun b hb' => hb b (hb'.resolve_right (by simp))) hf
    · cases hf

theorem places_run (hT : TabOk cx.P cx.T) : ∀ (fs : List Field) (w : World), (fs.all fun f => kn cx.T f.type) = true → (fs.mapM fun f => Prod.mk f.offset <$> sizeOf f.type).run cx.P w = .ok (fs.map fun f => (f.offset, (cx.T f.type).size)) w
  | [], w, _ => by simp
  | f :: fs, w, h => by
    simp only [List.all_cons, Bool.and_eq_true] at h
    simp [List.mapM_cons, (hT.kn h.1).sizeOf, places_run hT fs w h.2]

theorem good_build (hT : TabOk cx.P cx.T) (hd : DstOk cx o.dst) {t : TypeId} {ps : Array (Nat × Operand)} (ho : o.op = .build t ps) (hc : buildE cx.T g t ps.toList = some e) : Good cx g o e := by
  unfold buildE at hc
  cases hq : (aggK (cx.T t).k && kn cx.T t && fieldsKn cx.T t) with
  | false => rw [hq] at hc; simp at hc
  | true =>
  rw [hq] at hc
  simp only [cond_true] at hc
  simp only [Bool.and_eq_true] at hq
  obtain ⟨⟨q1, q2⟩, q3⟩ := hq
  have ty := hT.kn q2
  split at hc
  · rename_i rd md cs hf
    injection hc with hc
    subst hc
    rintro a w ⟨h, bs, M⟩
    obtain ⟨vs', bl', e1, e2, e3, e4, e5⟩ := fill_tells M hf (zero_own ty.zo) List.nodup_nil ⟨(fun m hm => by cases hm), List.nodup_nil⟩ (fun b hb => by cases hb)
    have hrun : (execOp a.eval o).run cx.P w = .ok (.value (.agg vs'.toArray)) w := by
      have hparts : (Array.map (fun x => (x.1, a.eval x.2)) ps).toList = ps.toList.map fun p => (p.1, a.eval p.2) := by simp
      have hpl : ∀ k, (cx.T t).k = k → placeT cx.T t = placeT cx.T t := fun _ _ => rfl
      cases hk : (cx.T t).k with
      | strct fs =>
        have hu := ty.under
        rw [hk] at hu
        obtain ⟨fields, hu, hfs⟩ := hu
        have hall : (fields.toList.all fun f => kn cx.T f.type) = true := by
          unfold fieldsKn at q3
          rw [hk] at q3
          simp only [hfs, List.all_map] at q3
          exact q3
        have hp := places_run hT fields.toList w hall
        have heq : placeT cx.T t = fun i => (fields.map fun f => (f.offset, (cx.T f.type).size))[i]? := by
          funext i
          unfold placeT
          rw [hk]
          simp only [hfs, List.getElem?_map, Array.getElem?_toList, Array.getElem?_map]
          cases hfi : fields[i]? with
          | none => rfl
          | some f =>
            have hkf : kn cx.T f.type = true := List.all_eq_true.1 hall f (by
              have := (Array.getElem?_eq_some_iff.1 hfi)
              obtain ⟨hlt, he⟩ := this
              rw [← he]; exact Array.getElem_mem_toList hlt)
            simp [hkf]
        rw [heq] at e1
        have hp' : (fields.mapM fun f => (do pure (f.offset, ← sizeOf f.type) : Sem (Nat × Nat))).run cx.P w = .ok (fields.map fun f => (f.offset, (cx.T f.type).size)) w := by
          rw [Array.mapM_eq_mapM_toList]
          simp only [bind_pure_comp, Sem.run_map, hp, Result.andThen_ok]
          congr 1
          apply Array.ext'
          simp
        simp only [execOp, ho, Instr.build, Sem.run_bind, ty.zeroValue, Result.andThen_ok, run_underlying hu, hp']
        simp only [ty.zcells, hparts, e1]
        rfl
      | arr n et =>
        have hu := ty.under
        rw [hk] at hu
        have hu' : cx.P.underlying t = some (.array n et) := hu
        by_cases hke : kn cx.T et = true
        · have heq : placeT cx.T t = fun i => some (i * (cx.T et).size, (cx.T et).size) := by
            funext i
            unfold placeT
            rw [hk]; simp [hke]
          rw [heq] at e1
          simp only [execOp, ho, Instr.build, Sem.run_bind, ty.zeroValue, Result.andThen_ok, run_underlying hu', (hT.kn hke).sizeOf]
          simp only [ty.zcells, hparts, e1]
          rfl
        · exfalso
          unfold fieldsKn at q3
          rw [hk] at q3
          exact hke q3
      | bool => rw [hk] at q1; cases q1
      | int k => rw [hk] at q1; cases q1
      | str => rw [hk] at q1; cases q1
      | sl e => rw [hk] at q1; cases q1
      | ptr => rw [hk] at q1; cases q1
      | iface => rw [hk] at q1; cases q1
      | other => rw [hk] at q1; cases q1
    have M1 := M.gone e4
    refine ⟨_, _, _, hrun, .inl rfl, M1.fin hd (x := .one true cs) ⟨vs', e2, rfl, fun hf => by cases hf⟩ trivial e3 (fun s _ b hb hbs => ?_) (fun b hb => ?_) (fun b hb => ?_)⟩
    · obtain ⟨q, hq, hbq⟩ := e5 b hb
      by_cases hs : s ∈ md.map Prod.fst
      · rw [if_pos hs] at hbs; cases hbs
      · rw [if_neg hs] at hbs; exact M.disj q s (fun e => hs (e ▸ hq)) b hbq hbs
    · obtain ⟨q, hq, hbq⟩ := e5 b hb; exact M.mine q b hbq
    · obtain ⟨q, hq, hbq⟩ := e5 b hb; exact M.lt q b hbq
  · cases hc
end Go.X
namespace Go.X
open Go
variable {cx : Cx} {g : Lk} {o : Oper} {e : Eff}

theorem flat_rep {α : Type} (l : List α) : ∀ (n p : Nat), p < n * l.length → (List.replicate n l).flatten[p]? = l[p % l.length]?
  | 0, p, h => by omega
  | n + 1, p, h => by
    rw [List.replicate_succ, List.flatten_cons]
    have h' : p < n * l.length + l.length := by rw [Nat.add_mul, Nat.one_mul] at h; exact h
    have hpos : 0 < l.length := by
      rcases Nat.eq_zero_or_pos l.length with h0 | h0
      · rw [h0] at h'; omega
      · exact h0
    by_cases hp : p < l.length
    · rw [List.getElem?_append_left hp, Nat.mod_eq_of_lt hp]
    · rw [List.getElem?_append_right (by omega), flat_rep l n (p - l.length) (by omega)]
      congr 1
      rw [Nat.mod_eq_sub_mod (a := p) (by omega)]
theorem zero_rep {h : Hp} {w : World} {cs : List C} (ho : cs.all zeroOk = true) : ∀ n, OwnCs h w (List.replicate n cs).flatten (List.replicate n (cs.map cval)).flatten []
  | 0 => ⟨rfl, rfl⟩
  | n + 1 => by
    rw [List.replicate_succ, List.replicate_succ, List.flatten_cons, List.flatten_cons]
    exact (zero_own ho).append (zero_rep ho n)

theorem good_buildSlice (hT : TabOk cx.P cx.T) (hd : DstOk cx o.dst) {t : TypeId} {len : Nat} {ps : Array (Nat × Operand)} (ho : o.op = .buildSlice t len ps) (hc : buildSliceE cx.T g t len ps.toList = some e) : Good cx g o e := by
  unfold buildSliceE at hc
  split at hc
  · rename_i et hk
    obtain ⟨hu, tyt⟩ := hT.sl hk
    split at hc
    · rename_i rd cs hf
      cases hq : (Nat.ble (len * (cx.T et).size) 1000 && !cs.any C.isOwn && kn cx.T et) with
      | false => rw [hq] at hc; simp at hc
      | true =>
        rw [hq] at hc
        simp only [cond_true, eff, Option.some.injEq] at hc
        subst hc
        simp only [Bool.and_eq_true, Bool.not_eq_true'] at hq
        obtain ⟨⟨q1, q2⟩, q3⟩ := hq
        have tye := hT.kn q3
        have hle := Nat.le_of_ble_eq_true q1
        rintro a w ⟨h, bs, M⟩
        obtain ⟨vs, bl, e1, e2, e3, e4, e5⟩ := fill_tells M hf (zero_rep tye.zo len) List.nodup_nil ⟨(fun m hm => by cases hm), List.nodup_nil⟩ (fun b hb => by cases hb)
        have hbl : bl = [] := by
          cases bl with
          | nil => rfl
          | cons b r => obtain ⟨q, hq, _⟩ := e5 b (by simp); cases hq
        subst hbl
        have hvl : vs.length = len * (cx.T et).size := by
          -- the length stays that of the noughts
          have : ∀ {ps : List (Nat × Operand)} {rd : List Nat} {md : List (Nat × X.S)} {cs : List C} {rd' : List Nat} {md' : List (Nat × X.S)} {cs' : List C}, fillE true g (placeT cx.T t) ps rd md cs = some (rd', md', cs') → cs'.length = cs.length := by
            intro ps
            induction ps with
            | nil => intro rd md cs rd' md' cs' hf; simp only [fillE, Option.some.injEq, Prod.mk.injEq] at hf; rw [hf.2.2]
            | cons p ps ih =>
              obtain ⟨i, x⟩ := p
              intro rd md cs rd' md' cs' hf
              simp only [fillE] at hf
              split at hf
              · rename_i off n s k ag xs hp hs
                cases hq : (Nat.beq xs.length n && Nat.ble (off + n) cs.length) with
                | false => rw [hq] at hf; simp at hf
                | true =>
                  rw [hq] at hf
                  simp only [cond_true] at hf
                  simp only [Bool.and_eq_true] at hq
                  have hl := Nat.eq_of_beq_eq_true hq.1
                  have hfit := Nat.le_of_ble_eq_true hq.2
                  have hpl : (placeAt cs off xs).length = cs.length := by unfold placeAt; simp; omega
                  cases hal : xs.all C.isD with
                  | true => rw [hal] at hf; exact (ih hf).trans hpl
                  | false =>
                    rw [hal] at hf
                    simp only [cond_false] at hf
                    cases hao : xs.any C.isOwn with
                    | true => rw [hao] at hf; simp at hf
                    | false => rw [hao] at hf; exact (ih hf).trans (by unfold placeAt; simp; omega)
              · cases hf
          have h1 := this hf
          rw [e2.length, h1]
          simp [List.length_flatten, tye.zl]
        have hrun : (execOp a.eval o).run cx.P w = .ok (.value (.slice (some ⟨w.heap.size, 0, none⟩) len len)) (w.alloc (.cells vs.toArray et)) := by
          have hparts : (Array.map (fun x => (x.1, a.eval x.2)) ps).toList = ps.toList.map fun p => (p.1, a.eval p.2) := by simp
          have heq : placeT cx.T t = fun i => some (i * (cx.T et).size, (cx.T et).size) := by
            funext i
            unfold placeT
            rw [hk]; simp [q3]
          rw [heq] at e1
          have h24 : ¬ (len * (cx.T et).size > 2 ^ 24) := by
            have : (2 : Nat) ^ 24 = 16777216 := by decide
            omega
          have hzc : ∀ z : Array Value, (len * (cx.T et).size ≠ 0 → z = ((cx.T et).zero.map cval).toArray) → (Array.range (len * (cx.T et).size)).map (z[· % z.size]!) = (List.replicate len ((cx.T et).zero.map cval)).flatten.toArray := by
            intro z hz
            apply Array.ext'
            apply List.ext_getElem?
            intro p
            have hzl : ((cx.T et).zero.map cval).length = (cx.T et).size := by rw [List.length_map, tye.zl]
            by_cases hp : p < len * (cx.T et).size
            · rw [flat_rep _ len p (by rw [hzl]; exact hp)]
              have hz' := hz (by omega)
              subst hz'
              simp only [Array.toList_map, Array.toList_range, List.getElem?_map, List.getElem?_range hp, Option.map_some, List.size_toArray]
              rw [hzl]
              have hm : p % (cx.T et).size < ((cx.T et).zero.map cval).length := by rw [hzl]; exact Nat.mod_lt _ (Nat.pos_of_ne_zero tye.pos)
              rw [getElem!_pos _ _ (by simpa using hm)]
              have hm' : p % (cx.T et).size < (cx.T et).zero.length := by simpa using hm
              simp [List.getElem?_eq_getElem hm']
            · rw [List.getElem?_eq_none (by simp; omega), List.getElem?_eq_none (by simp [List.length_flatten, tye.zl]; omega)]
          by_cases hz : len * (cx.T et).size = 0
          · have hz0 := hzc #[] (fun h => absurd hz h)
            have h240 : ¬ ((0 : Nat) > 2 ^ 24) := by decide
            rw [hz] at hz0
            simp only [execOp, ho, Instr.buildSlice, Sem.run_bind, run_underlying hu, Result.andThen_ok, tye.sizeOf, hz, h240, if_false, if_true, Sem.run_pure, newRow]
            simp only [hz0, hparts, e1]
            rfl
          · have hz0 := hzc ((cx.T et).zero.map cval).toArray (fun _ => rfl)
            simp only [execOp, ho, Instr.buildSlice, Sem.run_bind, run_underlying hu, Result.andThen_ok, tye.sizeOf, h24, if_false, hz, tye.zeroValue, Sem.run_pure, newRow, tye.zcells]
            simp only [hz0, hparts, e1]
            rfl
        have M1 := M.alloc vs.toArray et (fun i => vs[i]?) (fun i v h => by simpa using h)
        have hle' : h.le (h.ext w.heap.size fun i => vs[i]?) := Hp.ext_le M.holds _
        refine ⟨_, _, _, hrun, .inl rfl, M1.fin hd (x := .one false [.app (cx.T et).size len (rowF (cx.T et).size cs)]) (pb := [w.heap.size])
          (one_own (.inr ⟨w.heap.size, len, vs.toArray, et, rfl, Nat.le_refl _, heap_alloc_new w _, by simpa using hvl, fun j i hj hi => ?_, fun i hi => ?_, ?_, rfl, Nat.pos_of_ne_zero tye.pos⟩)) trivial (by simp) ?_ ?_ ?_⟩
        · have hlt : j * (cx.T et).size + i < cs.length := by
            have h1 : (j + 1) * (cx.T et).size ≤ len * (cx.T et).size := Nat.mul_le_mul_right _ hj
            rw [Nat.add_mul] at h1
            have := e2.length
            omega
          obtain ⟨v, b, hv, hov, hb⟩ := e2.at (i := j * (cx.T et).size + i) (List.getElem?_eq_getElem hlt)
          refine ⟨v, by simp only [Hp.ext, if_true]; exact hv, ?_⟩
          have hno : cs[j * (cx.T et).size + i].isOwn = false := by
            have := List.any_eq_false.1 q2 _ (List.getElem_mem hlt)
            simpa using this
          have hview := hov.view hno
          have hget : cs.getD (j * (cx.T et).size + i) nilC = cs[j * (cx.T et).size + i] := by simp [List.getD, hlt]
          unfold rowF
          rw [hget]
          cases hcc : cs[j * (cx.T et).size + i] with
          | d z => rw [hcc] at hview; exact hview.1.mono hle'
          | own _ _ _ => rw [hcc] at hno; cases hno
          | app _ _ _ => rw [hcc] at hview; exact hview.1.mono hle'
        · simp only [Hp.ext, if_true]
          exact List.getElem?_eq_none (by omega)
        · cases hgg : (h.ext w.heap.size fun i => vs[i]?).g w.heap.size with
          | none => rfl
          | some l => exact absurd (M.holds.ltg (b := w.heap.size) (l := l) hgg) (Nat.lt_irrefl _)
        · intro s _ b hb hbs
          simp only [List.mem_singleton] at hb
          subst hb
          exact absurd (M.lt s _ hbs) (Nat.lt_irrefl _)
        · intro b hb
          simp only [List.mem_singleton] at hb
          subst hb
          exact .inl M.fr.size
        · intro b hb
          simp only [List.mem_singleton] at hb
          subst hb
          simp
    · cases hc
  · cases hc
theorem good_empty (hT : TabOk cx.P cx.T) (hd : DstOk cx o.dst) {t : TypeId} {ps : Array (Nat × Operand)} (ho : o.op = .buildSlice t 0 ps) (hps : ps.toList = []) (hc : emptyE cx.T t = some e) : Good cx g o e := by
  unfold emptyE at hc
  split at hc
  · rename_i et hk
    obtain ⟨hu, tyt⟩ := hT.sl hk
    cases hkn : kn cx.T et with
    | false => rw [hkn] at hc; simp at hc
    | true =>
      rw [hkn] at hc
      simp only [cond_true, eff, Option.some.injEq] at hc
      subst hc
      have tye := hT.kn hkn
      have hps : ps = #[] := Array.toList_eq_nil_iff.1 hps
      subst hps
      rintro a w ⟨h, bs, M⟩
      have hrun : (execOp a.eval o).run cx.P w = .ok (.value (.slice (some ⟨w.heap.size, 0, none⟩) 0 0)) (w.alloc (.cells #[] et)) := by
        have h0 : Instr.fill (fun i => some (i * (cx.T et).size, (cx.T et).size)) (Array.map (fun _ => default) (Array.range 0)) [] = some (#[] : Array Value) := by simp [Instr.fill]
        simp [execOp, ho, Instr.buildSlice, run_underlying hu, tye.sizeOf, newRow, h0]
      have M1 := M.alloc #[] et (fun _ => none) (fun _ _ h => by cases h)
      refine ⟨_, _, _, hrun, .inl rfl, M1.fin hd (x := .one false [.own (cx.T et).size 0 fun _ _ => .v undef]) (pb := [w.heap.size])
        (one_own ⟨w.heap.size, 0, 0, #[], et, rfl, Nat.le_refl _, heap_alloc_new w _, by simp, fun j i hj hi => by omega, rfl, ⟨fun i => by simp [Hp.ext], ?_⟩⟩) trivial (by simp) ?_ ?_ ?_⟩
      · cases hgg : (h.ext w.heap.size fun _ => none).g w.heap.size with
        | none => rfl
        | some l => exact absurd (M.holds.ltg (b := w.heap.size) (l := l) hgg) (Nat.lt_irrefl _)
      · intro s _ b hb hbs
        simp only [List.mem_singleton] at hb
        subst hb
        exact absurd (M.lt s _ hbs) (Nat.lt_irrefl _)
      · intro b hb
        simp only [List.mem_singleton] at hb
        subst hb
        exact .inl M.fr.size
      · intro b hb
        simp only [List.mem_singleton] at hb
        subst hb
        simp
  · cases hc
end Go.X
