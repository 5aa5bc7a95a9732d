/- Part 6 of the proof of BackSums: The operations: append. The operations: copy. The operations: values behind interfaces; strings gone over. No conditions but those that each theorem names. -/
import Derived.Test.YthmecihkgdaffaaGreatDoorP05
import Derived.Laws.IdiomCopy
namespace Go.X
open Go
variable {cx : Cx} {g : Lk} {o : Oper} {e : Eff}

/-- the values of a slice's cells, in a row -/
theorem row_vals {p : Nat → Value → Prop} {sz n : Nat} (h : ∀ j i, j < n → i < sz → ∃ u, p (j * sz + i) u) : ∃ vs : List Value, vs.length = n * sz ∧ ∀ i v, vs[i]? = some v → p i v := by
  refine gather_vals (n * sz) fun i hi => ?_
  have hpos : 0 < sz := by
    rcases Nat.eq_zero_or_pos sz with h0 | h0
    · subst h0; omega
    · exact h0
  have h1 : i / sz < n := (Nat.div_lt_iff_lt_mul hpos).2 hi
  obtain ⟨u, hu⟩ := h (i / sz) (i % sz) h1 (Nat.mod_lt _ hpos)
  have h2 : i / sz * sz + i % sz = i := by rw [Nat.mul_comm]; exact Nat.div_add_mod i sz
  rw [h2] at hu
  exact ⟨u, hu⟩
theorem row_lt {sz n j i : Nat} (hj : j < n) (hi : i < sz) : j * sz + i < n * sz := by
  have : (j + 1) * sz ≤ n * sz := Nat.mul_le_mul_right _ hj
  rw [Nat.add_mul] at this
  omega
theorem appF_lt {n : Nat} {f k : Nat → Nat → D} {j : Nat} (hj : j < n) (i : Nat) : appF n f k j i = f j i := by
  unfold appF
  have : Nat.blt j n = true := Nat.ble_eq_true_of_le hj
  rw [this]; rfl
theorem appF_ge {n : Nat} {f k : Nat → Nat → D} {j : Nat} (hj : n ≤ j) (i : Nat) : appF n f k j i = k (j - n) i := by
  unfold appF
  have : Nat.blt j n = false := by
    cases hb : Nat.blt j n with
    | false => rfl
    | true => have : j + 1 ≤ n := Nat.le_of_ble_eq_true hb
              omega
  rw [this]; rfl

/-- cells of an owned block that become known -/
def Hp.ext2 (h : Hp) (b : Nat) (lo : Nat) (us : List Value) : Hp := { h with c := fun b' i => if b' = b ∧ lo ≤ i ∧ i < lo + us.length then us[i - lo]? else h.c b' i }

theorem append_room_run {P : Program} {w : World} {t ty e e' : TypeId} {i : TypeInfo} (ht : P.underlying t = some (.slice e)) (hi : P.info? e = some i)
    {g sLen sCap : Nat} {cur : Array Value} (hg : w.heap[g]? = some (.cells cur e' (0, 0)))
    {a : Addr} {m c : Nat} {news : List Value} (hl : news.length = m * i.size) (hnews : ∀ j u, news[j]? = some u → w.cell? (a.add j) = some u) (h1 : ∀ u ∈ news, u.oneCell' = true)
    {p : Nat} (hroom : sLen + m ≤ sCap) (hfit : p + sLen * i.size + news.length ≤ cur.size) :
    (Builtin.append_ #[t, t] ty #[.slice (some ⟨g, p, none⟩) sLen sCap, .slice (some a) m c]).run P w =
      .ok (.slice (some ⟨g, p, none⟩) (sLen + m) sCap) (w.setRow g (cur.toList.take (p + sLen * i.size) ++ news ++ cur.toList.drop (p + sLen * i.size + news.length)).toArray) := by
  have hf := run_firstCells_some (P := P) w i.size m a m c news hl hnews
  have hst := run_storeCells_at P g (p + sLen * i.size) e' news 0 cur w hg (by simpa using hfit) h1
  simp only [Nat.add_zero] at hst
  simp [Builtin.append_, run_underlying ht, sizeOf, typeInfo, hi, Builtin.lenOf, hroom, hf, add_eq, hst]

theorem good_append (hT : TabOk cx.P cx.T) (hd : DstOk cx o.dst) {t : TypeId} {x y : Operand} (ho : o.op = .call { callee := .builtin .append, args := #[x, y], argTypes := #[t, t] }) (hc : appendE cx.T g t x y = some e) (hp : e.pre) : Good cx g o e := by
  unfold appendE at hc
  split at hc
  · rename_i et sx kx c ry sz m hh hk hx hy
    obtain ⟨hu, tyt⟩ := hT.sl hk
    -- what both arms share
    cases hkn : kn cx.T et with
    | false =>
      rw [hkn] at hc
      cases c <;> simp at hc
    | true =>
    have tye := hT.kn hkn
    obtain ⟨ti, hi1, hi2, hi3, hi4⟩ := tye.info
    have hzs : (mkV (aggK (cx.T et).k) ((cx.T et).zero.map cval)).cells.size = (cx.T et).size := by rw [tye.zcells]; simp [tye.zl]
    have hspos : 0 < (cx.T et).size := Nat.pos_of_ne_zero tye.pos
    -- the second operand: nothing, or known cells
    have second : ∀ {h : Hp} {bs : Nat → List Nat} {a : Act} {w : World} (_ : SimW cx h bs g a w), (Nat.beq sz (cx.T et).size || Nat.beq m 0) = true →
        ∃ ad cap, a.eval y = .slice ad m cap ∧ (m = 0 ∨ ∃ b off, ∃ news : List Value, ad = some ⟨b, off, none⟩ ∧ news.length = m * (cx.T et).size ∧ (∀ i v, news[i]? = some v → h.c b (off + i) = some v) ∧ (∀ v ∈ news, v.oneCell' = true) ∧
          (∀ j i, j < m → i < (cx.T et).size → ∃ u, news[j * (cx.T et).size + i]? = some u ∧ (hh j i).rep h u)) := by
      intro h bs a w M hq
      obtain ⟨vs, hv, hev, _⟩ := plainOf_tells M hy
      obtain ⟨v, vs', b1, b2, rfl, hbb, hov, rfl, rfl⟩ := hv
      obtain ⟨ad, cap, hsl, hcap, hor⟩ := hov.1
      simp only [mkV, cond_false, List.headD_cons] at hev
      rw [hsl] at hev
      refine ⟨ad, cap, hev, ?_⟩
      rcases hor with h0 | ⟨b, off, had, hf⟩
      · exact .inl h0
      · by_cases hm : m = 0
        · exact .inl hm
        · right
          have hsz : sz = (cx.T et).size := by
            simp only [Bool.or_eq_true] at hq
            rcases hq with hq | hq
            · exact Nat.eq_of_beq_eq_true hq
            · exact absurd (Nat.eq_of_beq_eq_true hq) hm
          rw [hsz] at hf
          obtain ⟨news, hl, hn⟩ := row_vals (p := fun i v => h.c b (off + i) = some v ∧ v.oneCell' = true) (fun j i hj hi => by
            obtain ⟨u, hu, hr⟩ := hf j i hj hi
            exact ⟨u, hu, hr.one⟩)
          refine ⟨b, off, news, had, hl, fun i v hv => (hn i v hv).1, fun v hv => ?_, fun j i hj hi => ?_⟩
          · obtain ⟨i, hi⟩ := List.getElem?_of_mem hv
            exact (hn i v hi).2
          · obtain ⟨u, hu, hr⟩ := hf j i hj hi
            have hlt : j * (cx.T et).size + i < news.length := by rw [hl]; exact row_lt hj hi
            have := (hn _ _ (List.getElem?_eq_getElem hlt)).1
            rw [hu] at this
            injection this with this
            exact ⟨_, List.getElem?_eq_getElem hlt, by rw [← this]; exact hr⟩
    have evalrun : ∀ (a : Act) (w : World) (r : Result Value), (Builtin.append_ #[t, t] o.type #[a.eval x, a.eval y]).run cx.P w = r → (execOp a.eval o).run cx.P w = r.andThen fun v w' => .ok (.value v) w' := by
      intro a w r hr
      simp [execOp, ho, resolve, invoke, builtin, hr]
    -- nothing is appended
    have none_run : ∀ (a : Act) (w : World) (ad ad' : Option Addr) (n cap cap' : Nat), n ≤ cap → a.eval x = .slice ad n cap → a.eval y = .slice ad' 0 cap' → (execOp a.eval o).run cx.P w = .ok (.value (.slice ad n cap)) w := by
      intro a w ad ad' n cap cap' hn e1 e2
      rw [evalrun a w (.ok (.slice ad n cap) w) ?_]
      · rfl
      · rw [e1, e2]
        have hfc : (Builtin.firstCells (cx.T et).size 0 (.slice ad' 0 cap')).run cx.P w = .ok #[] w := by
          cases ad' <;> simp [Builtin.firstCells, loadCells, loadCellsFrom]
        cases ad <;> simp [Builtin.append_, run_underlying hu, sizeOf, typeInfo, hi1, hi2, Builtin.lenOf, hn, hfc, storeCells]
    -- the state behind, if the slot of the first operand is emptied
    have emptied : ∀ {h : Hp} {bs : Nat → List Nat} {a : Act} {w : World} {q k : Nat} {yq : X.S} (_ : SimW cx h bs g a w), g q = some (k, yq) → SimW cx h (fun s => if s = q then [] else bs s) (lkMod g q .no) a w :=
      fun M hg => M.mod hg (x := .no) (pb := []) (fun u hu => ⟨rfl, trivial⟩) List.nodup_nil (fun b hb => by cases hb) (fun t cs' h => by cases h) (fun c hc => by rw [noOwn_no] at hc; cases hc)
    -- a new block with cells known in front
    have newApp : ∀ {h : Hp} {bs1 : Nat → List Nat} {g1 : Lk} {a : Act} {w : World} (_ : SimW cx h bs1 g1 a w) (all rest : List Value) (N cap : Nat) (F : Nat → Nat → D), all.length = N * (cx.T et).size → (all ++ rest).length = cap * (cx.T et).size → N ≤ cap →
        (∀ j i, j < N → i < (cx.T et).size → ∃ u, all[j * (cx.T et).size + i]? = some u ∧ (F j i).rep h u) →
        Sim cx (lkDst g1 o.dst (.one false [.app (cx.T et).size N F])) (a.put o.dst (.slice (some ⟨w.heap.size, 0, none⟩) N cap)) (w.drew.alloc (.cells (all ++ rest).toArray et)) := by
      intro h bs1 g1 a w M1 all rest N cap F hl1 hl2 hN hF
      have M2 := M1.drew.alloc (all ++ rest).toArray et (fun i => if i < all.length then all[i]? else none) (fun i v hv => by
        split at hv
        · rename_i hi; simp only [List.getElem?_toArray]; rw [List.getElem?_append_left hi]; exact hv
        · cases hv)
      have hle : h.le (h.ext w.drew.heap.size fun i => if i < all.length then all[i]? else none) := Hp.ext_le M1.drew.holds _
      have hws : w.drew.heap.size = w.heap.size := rfl
      refine M2.fin hd (x := .one false [.app (cx.T et).size N F]) (pb := [w.heap.size])
        (one_own (.inr ⟨w.heap.size, cap, (all ++ rest).toArray, et, rfl, hN, heap_alloc_new w.drew _, by simpa using hl2, fun j i hj hi => ?_, fun i hi => ?_, ?_, rfl, hspos⟩)) trivial (by simp) ?_ ?_ ?_
      · obtain ⟨u, hu, hr⟩ := hF j i hj hi
        refine ⟨u, ?_, hr.mono hle⟩
        simp only [Hp.ext, hws, if_true]
        rw [if_pos (by rw [hl1]; exact row_lt hj hi)]
        exact hu
      · simp only [Hp.ext, hws, if_true]
        rw [if_neg (by omega)]
      · cases hgg : (h.ext w.drew.heap.size fun i => if i < all.length then all[i]? else none).g w.heap.size with
        | none => rfl
        | some l => exact absurd (M1.holds.ltg (b := w.heap.size) (l := l) hgg) (Nat.lt_irrefl _)
      · intro s _ b hb hbs
        simp only [List.mem_singleton] at hb
        subst hb
        exact absurd (M1.lt s _ hbs) (Nat.lt_irrefl _)
      · intro b hb
        simp only [List.mem_singleton] at hb
        subst hb
        exact .inl M1.fr.size
      · intro b hb
        simp only [List.mem_singleton] at hb
        subst hb
        simp
    have zc : ∀ k, (Builtin.zeroCells ((cx.T et).zero.map cval).toArray k).size = k * (cx.T et).size := fun k => by rw [size_zeroCells]; simp [tye.zl]
    have toL : ∀ (l1 l2 : List Value) (z : Array Value), l1.toArray ++ l2.toArray ++ z = (l1 ++ l2 ++ z.toList).toArray := fun l1 l2 z => by apply Array.ext'; simp
    have join : ∀ {h : Hp} {f : Nat → Nat → D} {olds news : List Value} {n : Nat}, olds.length = n * (cx.T et).size → news.length = m * (cx.T et).size →
        (∀ j i, j < n → i < (cx.T et).size → ∃ u, olds[j * (cx.T et).size + i]? = some u ∧ (f j i).rep h u) → (∀ j i, j < m → i < (cx.T et).size → ∃ u, news[j * (cx.T et).size + i]? = some u ∧ (hh j i).rep h u) →
        ∀ j i, j < n + m → i < (cx.T et).size → ∃ u, (olds ++ news)[j * (cx.T et).size + i]? = some u ∧ (appF n f hh j i).rep h u := by
      intro h f olds news n l1 l2 h1 h2 j i hj hi
      by_cases hjn : j < n
      · obtain ⟨u, hu, hr⟩ := h1 j i hjn hi
        exact ⟨u, by rw [List.getElem?_append_left (by rw [l1]; exact row_lt hjn hi)]; exact hu, by rw [appF_lt hjn]; exact hr⟩
      · obtain ⟨u, hu, hr⟩ := h2 (j - n) i (by omega) hi
        have hge : n * (cx.T et).size ≤ j * (cx.T et).size := Nat.mul_le_mul_right _ (by omega)
        refine ⟨u, ?_, by rw [appF_ge (by omega)]; exact hr⟩
        rw [List.getElem?_append_right (by rw [l1]; omega), l1]
        rw [show j * (cx.T et).size + i - n * (cx.T et).size = (j - n) * (cx.T et).size + i by rw [Nat.mul_sub_right_distrib]; omega]
        exact hu
    have fits : ∀ {n cap : Nat}, room (n + m) (cx.T et).bytes → cap < n + m → Builtin.nextslicecap (n + m) cap * ti.bytes ≤ 281474976710656 := fun hr hlt => growslice_fits hlt (by rw [hi3]; have := hr.2; omega)
    have nextZ : ∀ z, ti.zero = some z → z.cells = ((cx.T et).zero.map cval).toArray := fun z hz => by rw [hi4] at hz; injection hz with hz; rw [← hz]; exact tye.zcells
    -- the first operand holds known cells, or is nothing: a right to append
    have mainApp : ∀ {h : Hp} {bs bs1 : Nat → List Nat} {g1 : Lk} {a : Act} {w : World} {n : Nat} {f : Nat → Nat → D} (_ : SimW cx h bs g a w) (_ : SimW cx h bs1 g1 a w) {bq : List Nat}, OwnC h w (.app (cx.T et).size n f) (a.eval x) bq → (∀ s b, b ∈ bq → b ∈ bs1 s → False) → (∀ b ∈ bq, cx.w0.heap.size ≤ b ∨ b ∈ cx.lb) → (∀ b ∈ bq, b < w.heap.size) → room (n + m) (cx.T et).bytes → (Nat.beq sz (cx.T et).size || Nat.beq m 0) = true →
        ∃ v w', (execOp a.eval o).run cx.P w = .ok (.value v) w' ∧ Sim cx (lkDst g1 o.dst (.one false [.app (cx.T et).size (n + m) (appF n f hh)])) (a.put o.dst v) w' := by
      intro h bs bs1 g1 a w n f M M1 bq hown hdj hmq hlq hroom q1
      obtain ⟨ad2, cap2, hev2, hsec⟩ := second M q1
      by_cases hm : m = 0
      · -- nothing
        subst hm
        have hsame : OwnC h w (.app (cx.T et).size (n + 0) (appF n f hh)) (a.eval x) bq := by
          rcases hown with h0 | ⟨b, cap, cells, e', h1, h2, h3, h4, h5, h6, h7, h8, h9⟩
          · exact .inl h0
          · exact .inr ⟨b, cap, cells, e', h1, h2, h3, h4, fun j i hj hi => by rw [appF_lt (by omega)]; exact h5 j i hj hi, h6, h7, h8, h9⟩
        have hval : ∃ ad cap, a.eval x = .slice ad n cap ∧ n ≤ cap := by
          rcases hown with ⟨h1, h2, _⟩ | ⟨b, cap, cells, e', h1, h2, _⟩
          · exact ⟨none, 0, by rw [h1, h2], by omega⟩
          · exact ⟨_, cap, h1, h2⟩
        obtain ⟨ad, cap, hev, hcap⟩ := hval
        refine ⟨_, w, none_run a w ad ad2 n cap cap2 hcap hev hev2, ?_⟩
        rw [← hev]
        exact M1.fin hd (one_own hsame) trivial (by
          rcases hown with ⟨_, _, h3⟩ | ⟨b, cap, cells, e', _, _, _, _, _, _, _, h8, _⟩
          · rw [h3]; exact List.nodup_nil
          · rw [h8]; simp) (fun s _ b h1 h2 => hdj s b h1 h2) hmq hlq
      · rcases hsec with h0 | ⟨b2, off2, news, had2, hnl, hnc, hn1, hnr⟩
        · exact absurd h0 hm
        subst had2
        have hncell : ∀ (j : Nat) (v : Value), news[j]? = some v → w.cell? ((⟨b2, off2, none⟩ : Addr).add j) = some v := fun j v hv => by rw [add_eq]; exact M.holds.c _ _ _ (hnc j v hv)
        rcases hown with ⟨h1, hn0, h3⟩ | ⟨b, cap, cells, e', h1, hncap, hhb, hcs, hf, htail, hgb, hbq, _⟩
        · -- nil: a new block
          subst hn0
          have hr := run_append_nil (P := cx.P) w t o.type et ti _ hu hi1 hi4 ⟨b2, off2, none⟩ m cap2 news (by rw [hnl, hi2]) hncell (by omega) (by have := hroom.1; omega) (by rw [hi3]; have := hroom.2; rw [Nat.zero_add] at this; omega)
          rw [tye.zcells] at hr
          have hge := grownCap_ge w m 0 et
          have hru := evalrun a w (.ok _ _) (by rw [h1, hev2]; exact hr)
          refine ⟨_, _, hru, ?_⟩
          have e1 : news.toArray ++ Builtin.zeroCells ((cx.T et).zero.map cval).toArray (grownCap w m 0 et - m) = (news ++ (Builtin.zeroCells ((cx.T et).zero.map cval).toArray (grownCap w m 0 et - m)).toList).toArray := by apply Array.ext'; simp
          rw [e1, Nat.zero_add]
          exact newApp M1 news _ m (grownCap w m 0 et) _ hnl (by rw [List.length_append, hnl, Array.length_toList, zc, ← Nat.add_mul]; congr 1; omega) hge (fun j i hj hi => by
            obtain ⟨u, hu, hr⟩ := hnr j i hj hi
            exact ⟨u, hu, by rw [appF_ge (by omega)]; exact hr⟩)
        · subst hbq
          obtain ⟨olds, hol, hoc⟩ := row_vals (p := fun i v => h.c b i = some v) (fun j i hj hi => (hf j i hj hi).imp fun u hu => hu.1)
          have hor : ∀ j i, j < n → i < (cx.T et).size → ∃ u, olds[j * (cx.T et).size + i]? = some u ∧ (f j i).rep h u := fun j i hj hi => by
            obtain ⟨u, hu, hr⟩ := hf j i hj hi
            have hlt : j * (cx.T et).size + i < olds.length := by rw [hol]; exact row_lt hj hi
            have := hoc _ _ (List.getElem?_eq_getElem hlt)
            rw [hu] at this
            injection this with this
            exact ⟨_, List.getElem?_eq_getElem hlt, by rw [← this]; exact hr⟩
          by_cases hroomy : n + m ≤ cap
          · -- there is room: cells behind the last one become known
            have hfit : n * (cx.T et).size + news.length ≤ cells.size := by rw [hnl, hcs, ← Nat.add_mul]; exact Nat.mul_le_mul_right _ hroomy
            have hr := append_room_run (P := cx.P) (ty := o.type) (sCap := cap) (p := 0) hu hi1 hhb (a := ⟨b2, off2, none⟩) (c := cap2) (by rw [hnl, hi2]) hncell hn1 hroomy (by rw [hi2, Nat.zero_add]; exact hfit)
            rw [hi2, Nat.zero_add] at hr
            have hru := evalrun a w (.ok _ _) (by rw [h1, hev2]; exact hr)
            have hle : h.le (h.ext2 b (n * (cx.T et).size) news) := by
              refine ⟨fun b' i v hv => ?_, fun _ _ h => h⟩
              simp only [Hp.ext2]
              rw [if_neg]
              · exact hv
              · rintro ⟨rfl, h4, _⟩
                rw [htail i h4] at hv
                cases hv
            have cellw : ∀ i, (w.setRow b (cells.toList.take (n * (cx.T et).size) ++ news ++ cells.toList.drop (n * (cx.T et).size + news.length)).toArray).cell? ⟨b, i, none⟩ = if n * (cx.T et).size ≤ i ∧ i < n * (cx.T et).size + news.length then news[i - n * (cx.T et).size]? else w.cell? ⟨b, i, none⟩ := by
              intro i
              rw [cell_of_row _ b i _ e' (0, 0) (setRow_heap w b _ _ e' (0, 0) hhb), cell_of_row w b i _ e' (0, 0) hhb]
              simp only [List.getElem?_toArray]
              by_cases h5 : i < n * (cx.T et).size
              · rw [if_neg (by omega), List.append_assoc, List.getElem?_append_left (by rw [List.length_take, Array.length_toList]; omega), List.getElem?_take, if_pos h5]
                simp
              · by_cases h6 : i < n * (cx.T et).size + news.length
                · rw [if_pos (by omega), List.append_assoc, List.getElem?_append_right (by rw [List.length_take, Array.length_toList]; omega), List.getElem?_append_left (by rw [List.length_take, Array.length_toList]; omega)]
                  congr 1
                  rw [List.length_take, Array.length_toList]; omega
                · rw [if_neg (by omega), List.getElem?_append_right (by simp; omega), List.getElem?_drop]
                  simp only [Array.getElem?_toList]
                  congr 1
                  simp
                  omega
            have hbn : ∀ s, b ∉ bs1 s := fun s hb => hdj s b (by simp) hb
            have other : ∀ c, c ≠ b → (w.setRow b (cells.toList.take (n * (cx.T et).size) ++ news ++ cells.toList.drop (n * (cx.T et).size + news.length)).toArray).heap[c]? = w.heap[c]? := fun c hc => setRow_other w b c _ hc
            have M2 := M1.world' (k := h.ext2 b (n * (cx.T et).size) news) (w' := w.setRow b (cells.toList.take (n * (cx.T et).size) ++ news ++ cells.toList.drop (n * (cx.T et).size + news.length)).toArray) (fun c => c = b) (fun c hc => by subst hc; exact hmq c (by simp)) hle
              ⟨fun c i v hv => by
                simp only [Hp.ext2] at hv
                by_cases hcb : c = b
                · subst hcb
                  rw [cellw i]
                  by_cases hin : n * (cx.T et).size ≤ i ∧ i < n * (cx.T et).size + news.length
                  · rw [if_pos ⟨rfl, hin⟩] at hv; rw [if_pos hin]; exact hv
                  · rw [if_neg (fun h => hin h.2)] at hv; rw [if_neg hin]; exact M.holds.c c i v hv
                · rw [if_neg (fun h => hcb h.1)] at hv
                  rw [World.cell?_of_block (w := w) (a := ⟨c, i, none⟩) (other c hcb)]
                  exact M.holds.c c i v hv, fun c l hc => by
                have hcb : c ≠ b := fun e => by subst e; have : h.g c = some l := hc; rw [hgb] at this; cases this
                rw [other c hcb]; exact M.holds.g c l hc, fun c l i hc => by
                have hcb : c ≠ b := fun e => by subst e; have : h.g c = some l := hc; rw [hgb] at this; cases this
                simp only [Hp.ext2]; rw [if_neg (fun h => hcb h.1)]; exact M.holds.ap c l i hc⟩
              (fun c hc hcl i => by
                simp only [Hp.ext2]
                rw [if_neg]
                rintro ⟨rfl, _⟩
                rcases hmq c (by simp) with h7 | h7
                · omega
                · exact hcl h7) (fun c _ => rfl)
              ⟨rfl, rfl, rfl, by rw [setRow_size]; exact Nat.le_refl _, fun c _ hx => other c fun e => hx (.inr e)⟩
              (fun s => ⟨fun c hc => other c fun e => hbn s (e ▸ hc), fun c hc i => by
                simp only [Hp.ext2]
                rw [if_neg]
                rintro ⟨rfl, _⟩
                exact hbn s hc, fun _ _ => rfl⟩)
            refine ⟨_, _, hru, M2.fin hd (x := .one false [.app (cx.T et).size (n + m) (appF n f hh)]) (pb := [b]) (one_own (.inr ⟨b, cap, _, e', rfl, hroomy, setRow_heap w b _ _ e' (0, 0) hhb, ?_, fun j i hj hi => ?_, fun i hi => ?_, hgb, rfl, hspos⟩)) trivial (by simp) (fun s _ c hc hcs => by simp only [List.mem_singleton] at hc; subst hc; exact hbn s hcs) hmq (fun c hc => by rw [setRow_size]; exact hlq c hc)⟩
            · simp; omega
            · by_cases hjn : j < n
              · obtain ⟨u, hu, hr⟩ := hf j i hjn hi
                exact ⟨u, hle.c _ _ _ hu, by rw [appF_lt hjn]; exact hr.mono hle⟩
              · obtain ⟨u, hu, hr⟩ := hnr (j - n) i (by omega) hi
                have hge : n * (cx.T et).size ≤ j * (cx.T et).size := Nat.mul_le_mul_right _ (by omega)
                have hlt := row_lt (sz := (cx.T et).size) (show j - n < m by omega) hi
                have hsub : (j - n) * (cx.T et).size = j * (cx.T et).size - n * (cx.T et).size := Nat.mul_sub_right_distrib ..
                refine ⟨u, ?_, by rw [appF_ge (by omega)]; exact hr.mono hle⟩
                simp only [Hp.ext2]
                rw [if_pos ⟨trivial, by omega, by rw [hnl]; omega⟩]
                rw [show j * (cx.T et).size + i - n * (cx.T et).size = (j - n) * (cx.T et).size + i by omega]
                exact hu
            · simp only [Hp.ext2]
              rw [Nat.add_mul] at hi
              rw [if_neg (by rw [hnl]; omega)]
              exact htail i (by omega)
          · have hr := run_append_grow (P := cx.P) w t o.type et ti _ hu hi1 hi4 ⟨b, 0, none⟩ n cap olds (by rw [hol, hi2]) (fun j v hv => by rw [add_eq, Nat.zero_add]; exact M.holds.c _ _ _ (hoc j v hv)) ⟨b2, off2, none⟩ m cap2 news (by rw [hnl, hi2]) hncell (by omega) (by have := hroom.1; omega) (fits hroom (by omega))
            rw [tye.zcells] at hr
            have hge := grownCap_ge w (n + m) cap et
            have hru := evalrun a w (.ok _ _) (by rw [h1, hev2]; exact hr)
            refine ⟨_, _, hru, ?_⟩
            rw [toL]
            exact newApp M1 (olds ++ news) _ (n + m) (grownCap w (n + m) cap et) _ (by rw [List.length_append, hol, hnl, ← Nat.add_mul]) (by rw [List.length_append, List.length_append, hol, hnl, Array.length_toList, zc, ← Nat.add_mul, ← Nat.add_mul]; congr 1; omega) hge (join hol hnl hor hnr)
    cases c with
    | d z => simp at hc
    | app sz' n f =>
      simp only at hc
      cases hq : (!kn cx.T et || !(Nat.beq sz (cx.T et).size || Nat.beq m 0) || !(Nat.beq sz' (cx.T et).size || Nat.beq sz' 0)) with
      | true => rw [hq] at hc; simp at hc
      | false =>
        rw [hq] at hc
        simp only [cond_false] at hc
        simp only [Bool.or_eq_false_iff, Bool.not_eq_false'] at hq
        obtain ⟨⟨_, q1⟩, q2⟩ := hq
        have conv : ∀ {h : Hp} {w : World} {v : Value} {bq : List Nat}, OwnC h w (.app sz' n f) v bq → OwnC h w (.app (cx.T et).size n f) v bq := by
          intro h w v bq ho
          rcases ho with h0 | ⟨b, cap, cells, e', h1, h2, h3, h4, h5, h6, h7, h8, h9⟩
          · exact .inl h0
          · simp only [Bool.or_eq_true] at q2
            have : sz' = (cx.T et).size := by
              rcases q2 with q2 | q2
              · exact Nat.eq_of_beq_eq_true q2
              · have := Nat.eq_of_beq_eq_true q2; omega
            subst this
            exact .inr ⟨b, cap, cells, e', h1, h2, h3, h4, h5, h6, h7, h8, h9⟩
        cases sx with
        | some q =>
          simp only [Option.some.injEq] at hc
          subst hc
          simp only at hp
          rintro a w ⟨h, bs, M⟩
          obtain ⟨ht, _, hsl⟩ := src_tells M hx
          obtain ⟨hg, hv⟩ := hsl q rfl
          obtain ⟨v, w', h1, h2⟩ := mainApp M (emptied M hg) (conv (own_one ht)) (fun s b h1 h2 => by
            by_cases hsq : s = q
            · rw [if_pos hsq] at h2; cases h2
            · rw [if_neg hsq] at h2; exact M.disj q s (Ne.symm hsq) b h1 h2) (M.mine q) (M.lt q) hp q1
          exact ⟨_, w', v, h1, .inl rfl, h2⟩
        | none =>
          simp only [effp, Option.some.injEq] at hc
          subst hc
          simp only at hp
          rintro a w ⟨h, bs, M⟩
          obtain ⟨ht, _, hsl⟩ := src_tells M hx
          obtain ⟨v, w', h1, h2⟩ := mainApp M M (conv (own_one ht)) (fun s b h1 _ => by cases h1) (fun b hb => by cases hb) (fun b hb => by cases hb) hp q1
          exact ⟨_, w', v, h1, .inl rfl, h2⟩
    | own sz' n f =>
      simp only at hc
      cases hq : (!kn cx.T et || !(Nat.beq sz (cx.T et).size || Nat.beq m 0) || !Nat.beq sz' (cx.T et).size) with
      | true => rw [hq] at hc; simp at hc
      | false =>
        rw [hq] at hc
        simp only [cond_false] at hc
        simp only [Bool.or_eq_false_iff, Bool.not_eq_false'] at hq
        obtain ⟨⟨_, q1⟩, q2⟩ := hq
        have hsz := Nat.eq_of_beq_eq_true q2
        subst hsz
        cases sx with
        | none => cases hc
        | some q =>
          simp only [Option.some.injEq] at hc
          subst hc
          simp only at hp
          rintro a w ⟨h, bs, M⟩
          obtain ⟨ht, _, hsl⟩ := src_tells M hx
          obtain ⟨hg, hv⟩ := hsl q rfl
          have M1 := emptied M hg
          have hdj : ∀ s b, b ∈ bs q → b ∈ (fun s => if s = q then [] else bs s) s → False := fun s b h1 h2 => by
            by_cases hsq : s = q
            · simp only [hsq, if_true] at h2; cases h2
            · simp only [hsq, if_false] at h2; exact M.disj q s (Ne.symm hsq) b h1 h2
          obtain ⟨ad2, cap2, hev2, hsec⟩ := second M q1
          obtain ⟨b, p0, cap, cells, e', h1, hncap, hhb, hcs, hf, hbq, hfree⟩ := own_one ht
          simp only [ownerBs] at hbq
          by_cases hm : m = 0
          · subst hm
            refine ⟨_, w, _, none_run a w _ ad2 n cap cap2 hncap h1 hev2, .inl rfl, ?_⟩
            exact M1.fin hd (x := .one false [.own (cx.T et).size (n + 0) (appF n f hh)]) (pb := bs q) (one_own ⟨b, p0, cap, cells, e', rfl, hncap, hhb, hcs, fun j i hj hi => by rw [appF_lt (by omega)]; exact hf j i hj hi, hbq, hfree⟩) trivial (M.nodup q) (fun s _ b h1 h2 => hdj s b h1 h2) (M.mine q) (M.lt q)
          · rcases hsec with h0 | ⟨b2, off2, news, had2, hnl, hnc, hn1, hnr⟩
            · exact absurd h0 hm
            subst had2
            have hncell : ∀ (j : Nat) (v : Value), news[j]? = some v → w.cell? ((⟨b2, off2, none⟩ : Addr).add j) = some v := fun j v hv => by rw [add_eq]; exact M.holds.c _ _ _ (hnc j v hv)
            have hns : p0 + n * (cx.T et).size ≤ cells.size := by have := Nat.mul_le_mul_right (cx.T et).size hncap; omega
            have hor : ∀ j i, j < n → i < (cx.T et).size → ∃ u, ((cells.toList.drop p0).take (n * (cx.T et).size))[j * (cx.T et).size + i]? = some u ∧ (f j i).rep h u := fun j i hj hi => by
              obtain ⟨u, hu, hr⟩ := hf j i hj hi
              exact ⟨u, by rw [List.getElem?_take, if_pos (row_lt hj hi), List.getElem?_drop, Array.getElem?_toList]; exact hu, hr⟩
            have hol : ((cells.toList.drop p0).take (n * (cx.T et).size)).length = n * (cx.T et).size := by rw [List.length_take, List.length_drop, Array.length_toList]; omega
            have hjoin := join (h := h) hol hnl hor hnr
            by_cases hroomy : n + m ≤ cap
            · have hfit : p0 + n * (cx.T et).size + news.length ≤ cells.size := by
                have h9 := Nat.mul_le_mul_right (cx.T et).size hroomy
                rw [Nat.add_mul] at h9
                rw [hnl]; omega
              have hr := append_room_run (P := cx.P) (ty := o.type) (sCap := cap) (p := p0) hu hi1 hhb (a := ⟨b2, off2, none⟩) (c := cap2) (by rw [hnl, hi2]) hncell hn1 hroomy (by rw [hi2]; exact hfit)
              rw [hi2] at hr
              have hru := evalrun a w (.ok _ _) (by rw [h1, hev2]; exact hr)
              have hbn : ∀ s, b ∉ (fun s => if s = q then [] else bs s) s := fun s hb => hdj s b (by rw [hbq]; simp) hb
              have other : ∀ c, c ≠ b → (w.setRow b (cells.toList.take (p0 + n * (cx.T et).size) ++ news ++ cells.toList.drop (p0 + n * (cx.T et).size + news.length)).toArray).heap[c]? = w.heap[c]? := fun c hc => setRow_other w b c _ hc
              have M2 := M1.world' (k := h) (w' := w.setRow b (cells.toList.take (p0 + n * (cx.T et).size) ++ news ++ cells.toList.drop (p0 + n * (cx.T et).size + news.length)).toArray) (fun c => c = b) (fun c hc => by subst hc; exact M.mine q c (by rw [hbq]; simp)) (Hp.le.refl h)
                ⟨fun c i v hv => by
                  have hcb : c ≠ b := fun e => by subst e; rw [hfree.c i] at hv; cases hv
                  rw [World.cell?_of_block (w := w) (a := ⟨c, i, none⟩) (other c hcb)]
                  exact M.holds.c c i v hv, fun c l hc => by
                  have hcb : c ≠ b := fun e => by subst e; rw [hfree.g] at hc; cases hc
                  rw [other c hcb]; exact M.holds.g c l hc, M.holds.ap⟩ (fun _ _ _ _ => rfl) (fun _ _ => rfl)
                ⟨rfl, rfl, rfl, by rw [setRow_size]; exact Nat.le_refl _, fun c _ hx => other c fun e => hx (.inr e)⟩
                (fun s => ⟨fun c hc => other c fun e => hbn s (e ▸ hc), fun _ _ _ => rfl, fun _ _ => rfl⟩)
              refine ⟨_, _, _, hru, .inl rfl, M2.fin hd (x := .one false [.own (cx.T et).size (n + m) (appF n f hh)]) (pb := [b]) (one_own ⟨b, p0, cap, _, e', rfl, hroomy, setRow_heap w b _ _ e' (0, 0) hhb, by simp; omega, fun j i hj hi => ?_, rfl, hfree⟩) trivial (by simp) (fun s _ c hc hcs => by simp only [List.mem_singleton] at hc; subst hc; exact hbn s hcs) (fun c hc => M.mine q c (by rw [hbq]; exact hc)) (fun c hc => by rw [setRow_size]; exact M.lt q c (by rw [hbq]; exact hc))⟩
              obtain ⟨u, hu, hr⟩ := hjoin j i hj hi
              refine ⟨u, ?_, hr⟩
              rw [List.getElem?_toArray]
              by_cases hjn : j * (cx.T et).size + i < n * (cx.T et).size
              · rw [List.getElem?_append_left (by rw [hol]; exact hjn), List.getElem?_take, if_pos hjn, List.getElem?_drop] at hu
                rw [List.append_assoc, List.getElem?_append_left (by rw [List.length_take, Array.length_toList]; omega), List.getElem?_take, if_pos (by omega)]
                exact hu
              · rw [List.getElem?_append_right (by rw [hol]; omega), hol] at hu
                have hlt9 := (List.getElem?_eq_some_iff.1 hu).1
                rw [List.append_assoc, List.getElem?_append_right (by rw [List.length_take, Array.length_toList]; omega), List.getElem?_append_left (by rw [List.length_take, Array.length_toList]; omega), List.length_take, Array.length_toList]
                rw [show p0 + (j * (cx.T et).size + i) - min (p0 + n * (cx.T et).size) cells.size = j * (cx.T et).size + i - n * (cx.T et).size by omega]
                exact hu
            · have hr := run_append_grow (P := cx.P) w t o.type et ti _ hu hi1 hi4 ⟨b, p0, none⟩ n cap ((cells.toList.drop p0).take (n * (cx.T et).size)) (by rw [hol, hi2]) (fun j v hv => by
                rw [add_eq, cell_of_row w b _ _ e' (0, 0) hhb]
                rw [List.getElem?_take, List.getElem?_drop] at hv
                split at hv
                · rw [← Array.getElem?_toList]; exact hv
                · cases hv) ⟨b2, off2, none⟩ m cap2 news (by rw [hnl, hi2]) hncell (by omega) (by have := hp.1; omega) (fits hp (by omega))
              rw [tye.zcells] at hr
              have hge := grownCap_ge w (n + m) cap et
              have hru := evalrun a w (.ok _ _) (by rw [h1, hev2]; exact hr)
              refine ⟨_, _, _, hru, .inl rfl, ?_⟩
              rw [toL]
              have M3 := M1.drew.alloc ((cells.toList.drop p0).take (n * (cx.T et).size) ++ news ++ (Builtin.zeroCells ((cx.T et).zero.map cval).toArray (grownCap w (n + m) cap et - (n + m))).toList).toArray et (fun _ => none) (fun _ _ h => by cases h)
              have hws : w.drew.heap.size = w.heap.size := rfl
              refine M3.fin hd (x := .one false [.own (cx.T et).size (n + m) (appF n f hh)]) (pb := [w.heap.size]) (one_own ⟨w.heap.size, 0, grownCap w (n + m) cap et, _, et, rfl, hge, heap_alloc_new w.drew _, ?_, fun j i hj hi => ?_, rfl, ⟨fun i => by simp [Hp.ext, hws], ?_⟩⟩) trivial (by simp) ?_ ?_ ?_
              · simp only [List.size_toArray]
                refine Nat.le_of_eq ?_
                rw [Nat.zero_add, List.length_append, List.length_append, hol, hnl, Array.length_toList, zc, ← Nat.add_mul, ← Nat.add_mul]; congr 1; omega
              · obtain ⟨u, hu, hr⟩ := hjoin j i hj hi
                refine ⟨u, ?_, hr.mono (Hp.ext_le M1.drew.holds _)⟩
                rw [Nat.zero_add, List.getElem?_toArray, List.getElem?_append_left (by rw [List.length_append, hol, hnl, ← Nat.add_mul]; exact row_lt hj hi)]
                exact hu
              · cases hgg : (h.ext w.drew.heap.size fun _ => none).g w.heap.size with
                | none => rfl
                | some l => exact absurd (M.holds.ltg (b := w.heap.size) (l := l) hgg) (Nat.lt_irrefl _)
              · intro s _ c hc hcs
                simp only [List.mem_singleton] at hc
                subst hc
                exact absurd (M1.lt s _ hcs) (Nat.lt_irrefl _)
              · intro c hc
                simp only [List.mem_singleton] at hc
                subst hc
                exact .inl M.fr.size
              · intro c hc
                simp only [List.mem_singleton] at hc
                subst hc
                simp
  · cases hc
/-- append to nothing: a new block, which is owned -/
def appendNewE (T : Tab) (g : Lk) (t : TypeId) (x y : Operand) : Option Eff :=
  match (T t).k, src g x, plainOf g y with
  | .sl e, some (sx, _, .one false [.app sz' n _]), some (ry, false, [.d (.sf sz m h)]) =>
      bif kn T e && Nat.beq sz (T e).size && Nat.beq sz' 0 && Nat.beq n 0 && Nat.blt 0 m then
        some { rd := slots sx ++ ry, md := [], res := .one false [.own (T e).size m h], pre := room m (T e).bytes }
      else none
  | _, _, _ => none
theorem good_appendNew (hT : TabOk cx.P cx.T) (hd : DstOk cx o.dst) {t : TypeId} {x y : Operand} (ho : o.op = .call { callee := .builtin .append, args := #[x, y], argTypes := #[t, t] }) (hc : appendNewE cx.T g t x y = some e) (hp : e.pre) : Good cx g o e := by
  unfold appendNewE at hc
  split at hc
  · rename_i et sx kx sz' n0 f0 ry sz m hh hk hx hy
    obtain ⟨hu, tyt⟩ := hT.sl hk
    cases hb : (kn cx.T et && Nat.beq sz (cx.T et).size && Nat.beq sz' 0 && Nat.beq n0 0 && Nat.blt 0 m) with
    | false => rw [hb] at hc; simp at hc
    | true =>
    rw [hb] at hc
    simp only [cond_true, Option.some.injEq] at hc
    subst hc
    simp only [Bool.and_eq_true] at hb
    obtain ⟨⟨⟨⟨hkn, hsz⟩, hsz'⟩, hn0⟩, hm0⟩ := hb
    have hsz := Nat.eq_of_beq_eq_true hsz
    have hsz' := Nat.eq_of_beq_eq_true hsz'
    have hn0 := Nat.eq_of_beq_eq_true hn0
    have hm0 : 0 < m := Nat.le_of_ble_eq_true hm0
    subst hsz; subst hsz'; subst hn0
    have tye := hT.kn hkn
    obtain ⟨ti, hi1, hi2, hi3, hi4⟩ := tye.info
    have hspos : 0 < (cx.T et).size := Nat.pos_of_ne_zero tye.pos
    have zc : ∀ k, (Builtin.zeroCells ((cx.T et).zero.map cval).toArray k).size = k * (cx.T et).size := fun k => by rw [size_zeroCells]; simp [tye.zl]
    have evalrun : ∀ (a : Act) (w : World) (r : Result Value), (Builtin.append_ #[t, t] o.type #[a.eval x, a.eval y]).run cx.P w = r → (execOp a.eval o).run cx.P w = r.andThen fun v w' => .ok (.value v) w' := by
      intro a w r hr
      simp [execOp, ho, resolve, invoke, builtin, hr]
    rintro a w ⟨h, bs, M⟩
    obtain ⟨vs, hv, hev, _⟩ := plainOf_tells M hy
    obtain ⟨v, vs', b1, b2, rfl, hbb, hov, rfl, rfl⟩ := hv
    obtain ⟨ad, cap2, hsl, hcap, hor⟩ := hov.1
    simp only [mkV, cond_false, List.headD_cons] at hev
    rw [hsl] at hev
    obtain ⟨ht, _, _⟩ := src_tells M hx
    have hown := own_one ht
    rcases hor with h0 | ⟨b, off, had, hf⟩
    · omega
    subst had
    rcases hown with ⟨h1, _, _⟩ | ⟨_, _, _, _, _, _, _, _, _, _, _, _, h9⟩
    · obtain ⟨news, hl, hn⟩ := row_vals (p := fun i v => h.c b (off + i) = some v ∧ v.oneCell' = true) (fun j i hj hi => by
        obtain ⟨u, hu, hr⟩ := hf j i hj hi
        exact ⟨u, hu, hr.one⟩)
      have hncell : ∀ (j : Nat) (v : Value), news[j]? = some v → w.cell? ((⟨b, off, none⟩ : Addr).add j) = some v := fun j v hv => by rw [add_eq]; exact M.holds.c _ _ _ (hn j v hv).1
      have hr := run_append_nil (P := cx.P) w t o.type et ti _ hu hi1 hi4 ⟨b, off, none⟩ m cap2 news (by rw [hl, hi2]) hncell (by omega) (by have := hp.1; omega) (by rw [hi3]; have := hp.2; omega)
      rw [tye.zcells] at hr
      have hge := grownCap_ge w m 0 et
      have hru := evalrun a w (.ok _ _) (by rw [h1, hev]; exact hr)
      have e1 : news.toArray ++ Builtin.zeroCells ((cx.T et).zero.map cval).toArray (grownCap w m 0 et - m) = (news ++ (Builtin.zeroCells ((cx.T et).zero.map cval).toArray (grownCap w m 0 et - m)).toList).toArray := by apply Array.ext'; simp
      rw [e1] at hru
      refine ⟨_, _, _, hru, .inl rfl, ?_⟩
      have M3 := M.drew.alloc (news ++ (Builtin.zeroCells ((cx.T et).zero.map cval).toArray (grownCap w m 0 et - m)).toList).toArray et (fun _ => none) (fun _ _ h => by cases h)
      have hws : w.drew.heap.size = w.heap.size := rfl
      refine M3.fin hd (x := .one false [.own (cx.T et).size m hh]) (pb := [w.heap.size]) (one_own ⟨w.heap.size, 0, grownCap w m 0 et, _, et, rfl, hge, heap_alloc_new w.drew _, ?_, fun j i hj hi => ?_, rfl, ⟨fun i => by simp [Hp.ext, hws], ?_⟩⟩) trivial (by simp) ?_ ?_ ?_
      · simp only [List.size_toArray]
        refine Nat.le_of_eq ?_
        rw [Nat.zero_add, List.length_append, hl, Array.length_toList, zc, ← Nat.add_mul]; congr 1; omega
      · obtain ⟨u, hu, hr⟩ := hf j i hj hi
        refine ⟨u, ?_, hr.mono (Hp.ext_le M.drew.holds _)⟩
        have hlt : j * (cx.T et).size + i < news.length := by rw [hl]; exact row_lt hj hi
        have := (hn _ _ (List.getElem?_eq_getElem hlt)).1
        rw [hu] at this
        injection this with this
        rw [Nat.zero_add, List.getElem?_toArray, List.getElem?_append_left hlt, List.getElem?_eq_getElem hlt, this]
      · cases hgg : (h.ext w.drew.heap.size fun _ => none).g w.heap.size with
        | none => rfl
        | some l => exact absurd (M.holds.ltg (b := w.heap.size) (l := l) hgg) (Nat.lt_irrefl _)
      · intro s _ c hc hcs
        simp only [List.mem_singleton] at hc
        subst hc
        exact absurd (M.lt s _ hcs) (Nat.lt_irrefl _)
      · intro c hc
        simp only [List.mem_singleton] at hc
        subst hc
        exact .inl M.fr.size
      · intro c hc
        simp only [List.mem_singleton] at hc
        subst hc
        simp
    · exact absurd h9 (Nat.lt_irrefl _)
  · cases hc
end Go.X
namespace Go.X
open Go
variable {cx : Cx} {g : Lk} {o : Oper} {e : Eff}

theorem cpyF_lt {m : Nat} {f k : Nat → Nat → D} {j : Nat} (hj : j < m) (i : Nat) : cpyF m k f j i = k j i := by
  unfold cpyF
  have : Nat.blt j m = true := Nat.ble_eq_true_of_le hj
  rw [this]; rfl
theorem cpyF_ge {m : Nat} {f k : Nat → Nat → D} {j : Nat} (hj : m ≤ j) (i : Nat) : cpyF m k f j i = f j i := by
  unfold cpyF
  have : Nat.blt j m = false := by
    cases hb : Nat.blt j m with
    | false => rfl
    | true => have : j + 1 ≤ m := Nat.le_of_ble_eq_true hb
              omega
  rw [this]; rfl

theorem setRow_same (w : World) (b : Nat) (cells : Array Value) (t : TypeId) (fr : Nat × Nat) (hh : w.heap[b]? = some (.cells cells t fr)) : w.setRow b cells = w := by
  have : (w.setRow b cells).heap = w.heap := by
    apply Array.ext_getElem?
    intro i
    by_cases hi : i = b
    · subst hi; rw [setRow_heap w i cells cells t fr hh, hh]
    · exact setRow_other w b i cells hi
  show ({ w with heap := (w.setRow b cells).heap } : World) = w
  rw [this]
theorem good_copyb (hT : TabOk cx.P cx.T) (hd : DstOk cx o.dst) {t : TypeId} {x y : Operand} (ho : o.op = .call { callee := .builtin .copy, args := #[x, y], argTypes := #[t, t] }) (hc : copyE cx.T g t x y = some e) : Good cx g o e := by
  unfold copyE at hc
  split at hc
  · rename_i et rx r sz n f ry sz' m k hk hx hy
    obtain ⟨hu, tyt⟩ := hT.sl hk
    cases hq : (kn cx.T et && Nat.beq (cx.T et).size 1 && Nat.beq sz 1 && (Nat.beq sz' 1 || Nat.beq m 0) && noC r.c) with
    | false => rw [hq] at hc; simp at hc
    | true =>
      rw [hq] at hc
      simp only [cond_true, Option.some.injEq] at hc
      subst hc
      simp only [Bool.and_eq_true, Bool.or_eq_true] at hq
      obtain ⟨⟨⟨⟨q1, q2⟩, q3⟩, q4⟩, q5⟩ := hq
      have tye := hT.kn q1
      have q2 := Nat.eq_of_beq_eq_true q2
      have q3 := Nat.eq_of_beq_eq_true q3
      subst q3
      have hrc : r.c = none := by
        cases hr : r.c with
        | none => rfl
        | some i => rw [hr] at q5; cases q5
      rintro a w ⟨h, bs, M⟩
      obtain ⟨b0, hown, hroot⟩ := sliceOf_tells M hx
      obtain ⟨hat, hrv⟩ := hroot r 1 n f rfl rfl
      obtain ⟨v9, bb, hv9, hov, hsub, y1, hgr⟩ := own_at M hat
      rw [hrv] at hv9; injection hv9 with hv9; subst hv9
      obtain ⟨b, p0, cap, cells, e', h1, hn, hh, hz, hf, rfl, hfree⟩ := hov
      obtain ⟨vs, hvs, hey, hvl⟩ := plainOf_tells M hy
      obtain ⟨u, vs', c1, c2, rfl, hcc, ⟨hrep, rfl⟩, hvs', _⟩ := hvs
      subst hvs'
      have hey : a.eval y = u := by simpa [mkV] using hey
      obtain ⟨ay, capy, rfl, hmy, hsrc⟩ := hrep
      obtain ⟨ti, hi1, hi2, _⟩ := tye.info
      have hi : (cx.P.info? et).map (·.size) = some 1 := by rw [hi1, Option.map_some, hi2, q2]
      -- the cells that go over
      have hcs : ∃ cs : List Value, cs.length = min m n ∧ (min m n = 0 ∨ ∃ bs o, ay = some ⟨bs, o, none⟩ ∧ ∀ (j : Nat) v, cs[j]? = some v → w.cell? ⟨bs, o + j, none⟩ = some v) ∧ ∀ j, j < min m n → ∃ v, cs[j]? = some v ∧ (k j 0).rep h v := by
        rcases Nat.eq_zero_or_pos (min m n) with h0 | h0
        · exact ⟨[], by rw [h0]; rfl, .inl h0, fun j hj => by omega⟩
        · rcases hsrc with h9 | ⟨b2, o2, ha, hs⟩
          · omega
          · have hsz : sz' = 1 := by
              rcases q4 with q | q
              · exact Nat.eq_of_beq_eq_true q
              · have := Nat.eq_of_beq_eq_true q; omega
            subst hsz
            obtain ⟨cs, hl, hcs⟩ := row_vals (p := fun i v => w.cell? ⟨b2, o2 + i, none⟩ = some v ∧ (k i 0).rep h v) (sz := 1) (n := min m n) (fun j i hj hi => by
              obtain ⟨u, hu, hr⟩ := hs j i (by omega) hi
              have : i = 0 := by omega
              subst this
              exact ⟨u, M.holds.c _ _ _ hu, by rw [Nat.mul_one, Nat.add_zero]; exact hr⟩)
            rw [Nat.mul_one] at hl
            exact ⟨cs, hl, .inr ⟨b2, o2, ha, fun j v hv => (hcs j v hv).1⟩, fun j hj => ⟨cs[j], List.getElem?_eq_getElem (by omega), (hcs j _ (List.getElem?_eq_getElem (by omega))).2⟩⟩
      obtain ⟨cs, hcl, hcsrc, hcv⟩ := hcs
      have hones : ∀ v ∈ cs, v.oneCell' = true := fun v hv => by
        obtain ⟨j, hj, hjv⟩ := List.mem_iff_getElem.1 hv
        obtain ⟨v', h2, h3⟩ := hcv j (by omega)
        rw [List.getElem?_eq_getElem hj, hjv] at h2
        injection h2 with h2; subst h2; exact h3.one
      have hcap : p0 + n ≤ cells.size := by omega
      let new : Array Value := (cells.toList.take p0 ++ cs ++ cells.toList.drop (p0 + cs.length)).toArray
      have hrun : ∃ w', (execOp a.eval o).run cx.P w = .ok (.value (.int .i64 (min m n : Nat))) w' ∧ w' = w.setRow b new := by
        have hex : execOp a.eval o = Next.value <$> Builtin.copy_ #[t, t] o.type #[a.eval x, a.eval y] := by
          simp [execOp, ho, resolve, invoke, builtin]
        rw [hex, h1, hey]
        rcases hcsrc with h0 | ⟨b2, o2, rfl, hs⟩
        · refine ⟨w, ?_, ?_⟩
          · have := run_copy_none (P := cx.P) w t t o.type et (some ⟨b, p0, none⟩) ay n cap m capy hu hi (by show min m n = 0; exact h0)
            simp [this, h0, goInt]
          · have hc0 : cs = [] := List.eq_nil_of_length_eq_zero (by omega)
            have : new = cells := by show (cells.toList.take p0 ++ cs ++ cells.toList.drop (p0 + cs.length)).toArray = cells; rw [hc0]; simp
            rw [this]
            exact (setRow_same w b cells e' (0, 0) hh).symm
        · refine ⟨_, ?_, rfl⟩
          have := run_copy_row (P := cx.P) w t t o.type et b p0 n cap ⟨b2, o2, none⟩ m capy cells e' cs hu hi hh hcl (fun j v hv => by rw [add_eq]; exact hs j v hv) (by omega) hones
          simp [this, hcl, goInt, new]
      obtain ⟨w', hrun, rfl⟩ := hrun
      refine ⟨_, _, _, hrun, .inl rfl, ?_⟩
      have hbr : b ∈ bs r.s := hsub b (by simp)
      have hrow : (w.setRow b new).heap[b]? = some (.cells new e' (0, 0)) := setRow_heap w b _ _ e' (0, 0) hh
      have hnew : OwnC h (w.setRow b new) (.own 1 n (cpyF m k f)) (.slice (some ⟨b, p0, none⟩) n cap) [b] := by
        refine ⟨b, p0, cap, new, e', rfl, hn, hrow, ?_, fun j i hj hi => ?_, rfl, hfree⟩
        · show _ ≤ (cells.toList.take p0 ++ cs ++ cells.toList.drop (p0 + cs.length)).toArray.size
          simp; omega
        · have hi0 : i = 0 := by omega
          subst hi0
          show ∃ u, (cells.toList.take p0 ++ cs ++ cells.toList.drop (p0 + cs.length)).toArray[p0 + (j * 1 + 0)]? = some u ∧ _
          have hpl : (cells.toList.take p0).length = p0 := by rw [List.length_take, Array.length_toList]; omega
          rw [Nat.mul_one, Nat.add_zero, List.getElem?_toArray]
          by_cases hjm : j < m
          · obtain ⟨v, hv, hr⟩ := hcv j (by omega)
            exact ⟨v, by rw [List.append_assoc, List.getElem?_append_right (by omega), hpl, List.getElem?_append_left (by omega), show p0 + j - p0 = j by omega]; exact hv, by rw [cpyF_lt hjm]; exact hr⟩
          · obtain ⟨v, hv, hr⟩ := hf j 0 hj hi
            refine ⟨v, ?_, by rw [cpyF_ge (by omega)]; exact hr⟩
            rw [List.getElem?_append_right (by rw [List.length_append, hpl]; omega), List.getElem?_drop, List.length_append, hpl]
            rw [show p0 + cs.length + (p0 + j - (p0 + cs.length)) = p0 + j by omega]
            simpa using hv
      unfold atRoot at hat
      rw [hgr] at hat
      simp only [beq_eq, decide_true, cond_true, hrc] at hat
      unfold rootV at hrv
      rw [hrc] at hrv
      simp only at hrv
      cases y1 with
      | one ag cs' =>
        cases ag with
        | true => simp at hat
        | false =>
          match cs', hat with
          | [c], hat =>
            injection hat with hat
            subst hat
            have M2 := M.write (b := b) (pb := [b]) (ex := []) (new := new) (x := .one false [.own 1 n (cpyF m k f)]) hgr hfree hbr (fun v hv => by
                rw [hrv, h1] at hv
                injection hv with hv
                subst hv
                exact ⟨one_own hnew, fun _ _ _ => trivial⟩) (by simp) (fun c hc => by simp only [List.mem_singleton] at hc; subst hc; exact .inl hbr) (fun c hc => by cases hc) (fun c hc => by cases hc) (fun c hc => by cases hc) (fun t cs' h => by cases h) (fun c hc => by
                unfold atRoot at hc ⊢
                simp only [lkMod, if_true, hgr, Option.map_some, beq_eq, decide_true, cond_true] at hc ⊢
                cases c with
                | none => exact ⟨1, n, f, _, rfl, rfl, rfl⟩
                | some i => simp [isOwnO] at hc)
            exact M2.fin0 hd (x := num .i64 (min m n : Nat)) (one_own ⟨⟨rfl, rfl⟩, rfl⟩) trivial
          | [], hat => simp at hat
          | _ :: _ :: _, hat => simp at hat
      | tup xs => simp at hat
      | box t cs => simp at hat
      | ref r => simp at hat
      | adr s k o => simp at hat
      | elt r j o => simp at hat
      | imm sz o e => simp at hat
      | ifc a b c => simp at hat
      | itr a b => simp at hat
      | bld a b c => simp at hat
      | no => simp at hat
  · cases hc
end Go.X
namespace Go.X
open Go
variable {cx : Cx} {g : Lk} {o : Oper} {e : Eff}

theorem good_makeIfc (hT : TabOk cx.P cx.T) (hd : DstOk cx o.dst) {t : TypeId} {x : Operand} (ho : o.op = .makeInterface t x) (hc : makeIfcE cx.T g t x = some e) : Good cx g o e := by
  have key : ∀ (d : TypeDesc), cx.P.underlying t = some d → (∀ ms, d ≠ .interface ms) → (match plainOf g x with
      | some (rd, ag, cs) => eff rd (.ifc t ag cs)
      | none => none) = some e → Good cx g o e := by
    intro d hu hni hc
    split at hc
    · rename_i rd ag cs hx
      simp only [eff, Option.some.injEq] at hc
      subst hc
      refine good_value hd fun a w h bs M => ⟨.iface t (a.eval x), ?_, ?_, trivial⟩
      · have : (Instr.makeInterface t (a.eval x)).run cx.P w = .ok (.iface t (a.eval x)) w := by
          unfold Instr.makeInterface
          simp only [Sem.run_bind, run_underlying hu, Result.andThen_ok]
          cases d with
          | interface ms => exact absurd rfl (hni ms)
          | _ => rfl
        simp [execOp, ho, this]
      · obtain ⟨vs, h1, h2, h3⟩ := plainOf_tells M hx
        exact ⟨rfl, _, rfl, vs, h1, h2, fun e => by rw [← h1.length]; exact h3 e⟩
    · cases hc
  unfold makeIfcE at hc
  split at hc
  · cases hc
  · cases hc
  · rename_i h1 h2
    have ty := (hT.k (t := t) h2).under
    cases hk : (cx.T t).k with
    | iface => exact absurd hk h1
    | other => exact absurd hk h2
    | bool => rw [hk] at ty; exact key _ ty (fun ms h => by cases h) hc
    | int k => rw [hk] at ty; exact key _ ty (fun ms h => by cases h) hc
    | str => rw [hk] at ty; exact key _ ty (fun ms h => by cases h) hc
    | sl e => rw [hk] at ty; exact key _ ty (fun ms h => by cases h) hc
    | arr n e => rw [hk] at ty; exact key _ ty (fun ms h => by cases h) hc
    | strct fs => rw [hk] at ty; obtain ⟨f, hf, _⟩ := ty; exact key _ hf (fun ms h => by cases h) hc
    | ptr => rw [hk] at ty; obtain ⟨f, hf⟩ := ty; exact key _ hf (fun ms h => by cases h) hc

/-- a new object that is nobody's -/
theorem SimW.push {h : Hp} {bs : Nat → List Nat} {a : Act} {w : World} (M : SimW cx h bs g a w) (ob : Obj) : SimW cx h bs g a (w.alloc ob) := by
  refine M.world (Hp.le.refl h) ⟨fun b i v hv => ?_, fun b l hl => ?_, M.holds.ap⟩ (fun b hb _ i => rfl) (fun b hb => rfl) ⟨rfl, rfl, rfl, by simp, fun b hb _ => heap_alloc_old w _ b hb⟩ fun s => ⟨fun b hb => heap_alloc_old w _ b (M.lt s b hb), fun b hb i => rfl, fun b hb => rfl⟩
  · rw [World.cell?_alloc_old w _ ⟨b, i, none⟩ (Nat.ne_of_lt (M.holds.lt hv))]
    exact M.holds.c _ _ _ hv
  · obtain ⟨x, y, T, he⟩ := M.holds.g b l hl
    exact ⟨x, y, T, by rw [heap_alloc_old w _ b (M.holds.ltg hl)]; exact he⟩
theorem SimW.freeNew {h : Hp} {bs : Nat → List Nat} {a : Act} {w : World} (M : SimW cx h bs g a w) : Free h w.heap.size := by
  refine ⟨fun i => ?_, ?_⟩
  · cases hv : h.c w.heap.size i with
    | none => rfl
    | some v => exact absurd (M.holds.lt hv) (Nat.lt_irrefl _)
  · cases hv : h.g w.heap.size with
    | none => rfl
    | some v => exact absurd (M.holds.ltg hv) (Nat.lt_irrefl _)

theorem good_range (hT : TabOk cx.P cx.T) (hd : DstOk cx o.dst) {t : TypeId} {x : Operand} (ho : o.op = .range t x) (hc : rangeE cx.T g t x = some e) : Good cx g o e := by
  unfold rangeE at hc
  split at hc
  · rename_i rd s hk hx
    simp only [eff, Option.some.injEq] at hc
    subst hc
    have hu : cx.P.underlying t = some .string := by
      have := (hT.k (t := t) (by rw [hk]; exact fun h => by cases h)).under
      rw [hk] at this; exact this
    rintro a w ⟨h, bs, M⟩
    have hrun : (execOp a.eval o).run cx.P w = .ok (.value (.pointer (some ⟨w.heap.size, 0, none⟩))) (w.alloc (.stringIter s 0)) := by
      simp [execOp, ho, Instr.range, (scal_val M hx).1, run_underlying hu]
    refine ⟨_, _, _, hrun, .inl rfl, (M.push (.stringIter s 0)).fin hd (x := .itr s 0) (pb := [w.heap.size]) ⟨w.heap.size, rfl, heap_alloc_new w _, rfl, M.freeNew⟩ trivial (by simp) ?_ ?_ ?_⟩
    · intro s _ b hb hbs
      simp only [List.mem_singleton] at hb
      subst hb
      exact absurd (M.lt s _ hbs) (Nat.lt_irrefl _)
    · intro b hb
      simp only [List.mem_singleton] at hb
      subst hb
      exact .inl M.fr.size
    · intro b hb
      simp only [List.mem_singleton] at hb
      subst hb
      simp
  · cases hc

def World.putAt (w : World) (b : Nat) (ob : Obj) : World := { w with heap := w.heap.setIfInBounds b ob }
theorem oneC_own {h : Hp} {w : World} {v : Value} (hv : v.oneCell' = true) : CompTells h w false [.d (.v v)] v [] :=
  ⟨[v], ⟨v, [], [], [], rfl, rfl, ⟨⟨rfl, hv⟩, rfl⟩, rfl, rfl⟩, rfl, fun _ => rfl⟩
theorem good_next (hd : DstOk cx o.dst) {x : Operand} {str : Bool} (ho : o.op = .next x str) (hc : nextE g x str = some e) : Good cx g o e := by
  unfold nextE at hc
  split at hc
  · rename_i q k s pos hs
    rintro a w ⟨h, bs, M⟩
    obtain ⟨ht, _, hsl⟩ := src_tells M hs
    obtain ⟨hg, hv⟩ := hsl q rfl
    obtain ⟨b, hev, hh, hbs, hfree⟩ := ht
    have hget : (getObj b).run cx.P w = .ok (.stringIter s pos) w := by simp [getObj, Sem.run, hh]
    have hbs : bs q = [b] := hbs
    cases hp : Nat.blt pos s.size with
    | false =>
      rw [hp] at hc
      simp only [cond_false, eff, Option.some.injEq] at hc
      subst hc
      have hp' : ¬ pos < s.size := by
        intro hlt
        have : Nat.blt pos s.size = true := by rw [Nat.blt_eq]; exact hlt
        rw [hp] at this; cases this
      have hrun : (execOp a.eval o).run cx.P w = .ok (.value (.tuple #[.bool false])) w := by
        simp [execOp, ho, Instr.next, hev, hget, hp']
      exact ⟨_, w, _, hrun, .inl rfl, M.fin0 hd (x := .tup [oneC (.bool false)]) ⟨[.bool false], rfl, .bool false, [], [], [], rfl, rfl, .inr (oneC_own rfl), rfl, rfl⟩ trivial⟩
    | true =>
      rw [hp] at hc
      simp only [cond_true, Option.some.injEq] at hc
      subst hc
      have hp' : pos < s.size := by rw [← Nat.blt_eq]; exact hp
      have hset : (setObj b (.stringIter s (pos + (Utf8.decode s pos).2))).run cx.P w = .ok () (World.putAt w b (.stringIter s (pos + (Utf8.decode s pos).2))) := by
        simp [setObj, Sem.run, hh, World.putAt]
      have hrun : (execOp a.eval o).run cx.P w = .ok (.value (.tuple #[.bool true, .int .i64 pos, .int .i32 (Utf8.decode s pos).1])) (World.putAt w b (.stringIter s (pos + (Utf8.decode s pos).2))) := by
        simp [execOp, ho, Instr.next, hev, hget, hp', hset, goInt]
      have hlt : b < w.heap.size := (Array.getElem?_eq_some_iff.1 hh).1
      have M1 := M.upon (w' := World.putAt w b (.stringIter s (pos + (Utf8.decode s pos).2))) (x := .itr s (pos + (Utf8.decode s pos).2)) (pb := [b]) (ex := []) hg
        (fun c hc => by show (w.heap.setIfInBounds b _)[c]? = _; rw [Array.getElem?_setIfInBounds, if_neg (Ne.symm hc)]) (by show (w.heap.setIfInBounds b _).size = _; simp) rfl rfl rfl hfree (by rw [hbs]; simp)
        (fun v hv' => ⟨⟨b, by rw [hv] at hv'; injection hv' with hv'; rw [← hv', hev], by show (w.heap.setIfInBounds b _)[b]? = _; simp [hlt], rfl, hfree⟩, fun _ _ _ => trivial⟩)
        (by simp) (fun c hc => by rw [hbs]; exact .inl hc) (fun c hc => by cases hc) (fun c hc => by cases hc) (fun c hc => by cases hc) (fun t cs' h => by cases h)
        (fun c hc => by
          unfold atRoot at hc
          simp only [lkMod, if_true, hg, Option.map_some, beq_eq, decide_true, cond_true] at hc
          cases c <;> simp [isOwnO] at hc)
      refine ⟨_, _, _, hrun, .inl rfl, M1.fin0 hd (x := .tup [oneC (.bool true), oneC (.int .i64 pos), oneC (.int .i32 (Utf8.decode s pos).1)]) ⟨[.bool true, .int .i64 pos, .int .i32 (Utf8.decode s pos).1], rfl, ?_⟩ trivial⟩
      exact ⟨_, _, [], [], rfl, rfl, .inr (oneC_own rfl), _, _, [], [], rfl, rfl, .inr (oneC_own rfl), _, _, [], [], rfl, rfl, .inr (oneC_own rfl), rfl, rfl⟩
  · cases hc
end Go.X
