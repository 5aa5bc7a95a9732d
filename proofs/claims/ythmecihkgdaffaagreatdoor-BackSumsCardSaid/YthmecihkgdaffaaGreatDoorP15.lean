/- Part 15 of the proof of BackSums: Paths and contracts. Paths and contracts. No conditions but those that each theorem names. -/
import Derived.Test.YthmecihkgdaffaaGreatDoorP14
namespace Go.X
open Go Go.Proofs
noncomputable def B167 : Code := codeOf Tryz.f167
noncomputable def E167 : Env := EV PP 45 [0]
theorem D167 {args outs : List S} {gout : List (Nat × S)} {e : Fin} {res : S} (hg : Goes E167 B167 (entry 0 args) e gout) (he : e = .normal ∨ e = .ret) (hle : Nat.ble args.length 45 = true)
    (hfin : finE (tabOf PP) gout Tryz.f167.results.toList args [0] = some (outs, res)) : Den PP 167 args outs res :=
  den_tab (fn := Tryz.f167) (c := B167) (by kernel_rfl) (by kernel_rfl) (by kernel_rfl) (by kernel_rfl) hle hfin hg he
noncomputable def L167a : Code := sub [false, true, false, false] B167
def sRow (ou a : List Nat) (at_ x c i : Nat) : List (Nat × S) := [(0, (WO ou)), (1, (num .i64 ((at_ : Nat) : Int))), (2, (W a)), (3, (u x)), (4, (u c)), (12, (W a)), (13, (num .i64 ((a.length : Nat) : Int))), (14, (num .i64 ((i : Nat) : Int)))]
theorem row_in {ou r a : List Nat} {at_ x c i y o hi lo : Nat}
    (h1 : Den PP 207 [(u x), (u y), (u o), (u c)] [(u x), (u y), (u o), (u c)] (.tup [uc hi, uc lo]))
    (h2 : (decide (((i : Nat) : Int) < ((a.length : Nat) : Int))) = true)
    (h3 : idx a.length ((i : Nat) : Int))
    (h4 : inR .i64 (((at_ : Nat) : Int) + ((i : Nat) : Int)))
    (h5 : idx ou.length (((at_ : Nat) : Int) + ((i : Nat) : Int)))
    (h6 : (a.getD (Int.toNat ((i : Nat) : Int)) 0 : Int) = ((y : Nat) : Int))
    (h7 : (ou.getD (Int.toNat (((at_ : Nat) : Int) + ((i : Nat) : Int))) 0 : Int) = ((o : Nat) : Int))
    (h8 : inR .i64 (((i : Nat) : Int) + (1:Int)))
    (h9 : ou.length = r.length ∧ FEq ou.length 1 (updF (wf ou) (Int.toNat (((at_ : Nat) : Int) + ((i : Nat) : Int))) 0 [(.d (.v (.int .u32 ((lo : Nat) : Int))))]) (wf r))
    (h10 : (((i : Nat) : Int) + (1:Int)) = ((i + 1 : Nat) : Int)) :
    Goes E167 L167a (sRow ou a at_ x c i) .normal (sRow r a at_ x hi (i + 1)) :=
  pathG [.r [] [0, 1, 2, 3, 4, 12, 13, 14, 15], .t true, .r [] [0, 1, 2, 3, 4, 10, 11, 12, 13, 14, 15], .r [.c [(u x), (u y), (u o), (u c)] [(u x), (u y), (u o), (u c)] (.tup [uc hi, uc lo])] [0, 1, 2, 3, 4, 10, 11, 12, 13, 14, 15], .r [] [0, 1, 2, 3, 4, 10, 11, 12, 13, 14, 15]] ((cc h2 (cc h3 (cc h4 (cc h4 (cc h5 (cc (er ((x : Nat) : Int)) (cc h6 (cc h7 (cc (er ((c : Nat) : Int)) (cc h1 (cc h5 (cc h8 (cc h9 (cc (er ((at_ : Nat) : Int)) (cc (fq a.length 1 (wf a)) (cc (er ((x : Nat) : Int)) (cc (er ((hi : Nat) : Int)) (cc (fq a.length 1 (wf a)) (cc (er ((a.length : Nat) : Int)) (cc h10 nn))))))))))))))))))))) (by kernel_rfl)
theorem row_out {ou a : List Nat} {at_ x c i : Nat}
    (h1 : (decide (((i : Nat) : Int) < ((a.length : Nat) : Int))) = false) :
    Goes E167 L167a (sRow ou a at_ x c i) (.exit 0) (sRow ou a at_ x c i) :=
  pathG [.r [] [0, 1, 2, 3, 4, 12, 13, 14, 15], .t false] ((cc h1 (cc (fq ou.length 1 (wf ou)) (cc (er ((at_ : Nat) : Int)) (cc (fq a.length 1 (wf a)) (cc (er ((x : Nat) : Int)) (cc (er ((c : Nat) : Int)) (cc (fq a.length 1 (wf a)) (cc (er ((a.length : Nat) : Int)) (cc (er ((i : Nat) : Int)) nn)))))))))) (by kernel_rfl)
theorem row_all {ou g r a : List Nat} {at_ x c k : Nat}
    (h1 : Loops E167 L167a (sRow ou a at_ x c 0) (.exit 0) (sRow g a at_ x k a.length))
    (h2 : inR .i64 (((at_ : Nat) : Int) + (a.length : Int)))
    (h3 : idx g.length (((at_ : Nat) : Int) + (a.length : Int)))
    (h4 : g.length = r.length ∧ FEq g.length 1 (updF (wf g) (Int.toNat (((at_ : Nat) : Int) + (a.length : Int))) 0 [(.d (.v (.int .u32 ((k : Nat) : Int))))]) (wf r)) :
    Goes E167 B167 [(0, (WO ou)), (1, (num .i64 ((at_ : Nat) : Int))), (2, (W a)), (3, (u x)), (4, (u c))] .normal [(0, (WO r))] :=
  pathG [.r [] [0, 1, 2, 3, 4, 12, 13, 14], .l (sRow ou a at_ x c 0) (.exit 0) (sRow g a at_ x k a.length), .r [] [0, 1, 2, 3, 4, 12, 13, 14]] ((cc (fq ou.length 1 (wf ou)) (cc (er ((at_ : Nat) : Int)) (cc (fq a.length 1 (wf a)) (cc (er ((x : Nat) : Int)) (cc (er ((c : Nat) : Int)) (cc (fq a.length 1 (wf a)) (cc (er (a.length : Int)) (cc (er (0:Int)) (cc h1 (cc h2 (cc h3 (cc h4 nn))))))))))))) (by kernel_rfl)

/-- what is summed up ahead of a place -/
def rowN (a w : List Nat) (x c i : Nat) : Nat := x * val (a.take i) + val (w.take i) + c
theorem rowN_succ (a w : List Nat) (x c i : Nat) : rowN a w x c (i + 1) = rowN a w x c i + 4294967296 ^ i * (x * a.getD i 0 + w.getD i 0) := by
  unfold rowN
  rw [val_take_succ, val_take_succ, Nat.mul_add x, Nat.mul_left_comm x, Nat.mul_add (4294967296 ^ i)]
  omega
theorem rowN_lt {a w : List Nat} {x c : Nat} (ha : Wd a) (hw : Wd w) (hx : x < 4294967296) (hc : c < 4294967296) (i : Nat) : rowN a w x c i < 4294967296 ^ i * 4294967296 := by
  have h1 := val_take_lt ha i
  have h2 := val_take_lt hw i
  have h3 : x * val (a.take i) ≤ 4294967295 * (4294967296 ^ i - 1) := Nat.mul_le_mul (by omega) (by omega)
  have h4 := Bpos i
  unfold rowN
  rw [Nat.mul_sub] at h3
  omega
theorem row_loop (l w z a : List Nat) (x c : Nat) (ha : Wd a) (hw : Wd w) (hx : x < 4294967296) (hc : c < 4294967296) (hl : a.length ≤ w.length) (hb : (l ++ w ++ z).length ≤ 4294967296) : ∀ (j i : Nat), i + j = a.length →
    Loops E167 L167a (sRow (l ++ (digs i (rowN a w x c i) ++ w.drop i) ++ z) a l.length x (rowN a w x c i / 4294967296 ^ i) i) (.exit 0)
      (sRow (l ++ (digs a.length (rowN a w x c a.length) ++ w.drop a.length) ++ z) a l.length x (rowN a w x c a.length / 4294967296 ^ a.length) a.length)
  | 0, i, hi => by
    have : i = a.length := by omega
    subst this
    exact .leave (row_out (decide_eq_false (by omega))) (fun h => by cases h)
  | j + 1, i, hi => by
    simp only [List.length_append] at hb
    have hlen : (l ++ (digs i (rowN a w x c i) ++ w.drop i) ++ z).length = l.length + w.length + z.length := by
      simp only [List.length_append, digs_len, List.length_drop]; omega
    have hN : rowN a w x c i / 4294967296 ^ i < 4294967296 := by
      rw [Nat.div_lt_iff_lt_mul (Bpos i), Nat.mul_comm]; exact rowN_lt ha hw hx hc i
    have hm := limb_mul x (a.getD i 0) (w.getD i 0) (rowN a w x c i / 4294967296 ^ i) hx (ha.getD i) (hw.getD i) hN
    have hs := set_mid l (digs i (rowN a w x c i)) (w.drop i) z i ((x * a.getD i 0 + w.getD i 0 + rowN a w x c i / 4294967296 ^ i) % 4294967296) (digs_len _ _) (by rw [List.length_drop]; omega)
    have hg := getD_mid l (digs i (rowN a w x c i)) (w.drop i) z i (digs_len _ _) (by rw [List.length_drop]; omega)
    rw [drop_getD] at hg
    rw [List.drop_drop, show (x * a.getD i 0 + w.getD i 0 + rowN a w x c i / 4294967296 ^ i) = rowN a w x c i / 4294967296 ^ i + (x * a.getD i 0 + w.getD i 0) by omega, ← digs_add, ← rowN_succ] at hs
    have hq : (x * a.getD i 0 + w.getD i 0 + rowN a w x c i / 4294967296 ^ i) / 4294967296 = rowN a w x c (i + 1) / 4294967296 ^ (i + 1) := by
      rw [rowN_succ, div_add]; congr 1; omega
    rw [hq, show (x * a.getD i 0 + w.getD i 0 + rowN a w x c i / 4294967296 ^ i) = rowN a w x c i / 4294967296 ^ i + (x * a.getD i 0 + w.getD i 0) by omega] at hm
    have ht : Int.toNat (((l.length : Nat) : Int) + ((i : Nat) : Int)) = l.length + i := by omega
    refine .again (row_in (r := l ++ (digs (i + 1) (rowN a w x c (i + 1)) ++ w.drop (i + 1)) ++ z) (y := a.getD i 0) (o := w.getD i 0) hm (decide_eq_true (by omega)) ?_ ?_ ?_ ?_ ?_ ?_ ?_ ?_) (row_loop l w z a x c ha hw hx hc hl (by simp only [List.length_append]; omega) j (i + 1) (by omega))
    all_goals first
      | exact ⟨by omega, by omega⟩
      | exact i64_ok (by omega) (by omega)
      | rfl
      | omega
      | (rw [ht]; exact FEqset _ _ _ (by omega) hs)
      | (rw [ht, hg])
theorem prod_row (l w z a : List Nat) (x c : Nat) (ha : Wd a) (hw : Wd w) (hx : x < 4294967296) (hc : c < 4294967296) (hl : w.length = a.length + 1) (hb : (l ++ w ++ z).length ≤ 4294967296) :
    Den PP 167 [WO (l ++ w ++ z), num .i64 (l.length : Int), W a, u x, u c] [WO (l ++ digs (a.length + 1) (rowN a w x c a.length) ++ z), num .i64 (l.length : Int), W a, u x, u c] (.tup []) := by
  refine D167 (gout := [(0, WO (l ++ digs (a.length + 1) (rowN a w x c a.length) ++ z))]) (e := .normal) ?_ (.inl rfl) (by kernel_rfl) (by kernel_rfl)
  have hloop := row_loop l w z a x c ha hw hx hc (by omega) hb a.length 0 (by omega)
  have h0 : rowN a w x c 0 = c := by unfold rowN; simp [val]
  rw [h0, digs, Nat.pow_zero, Nat.div_one, List.drop_zero, List.nil_append] at hloop
  simp only [List.length_append] at hb
  have hlt : rowN a w x c a.length / 4294967296 ^ a.length < 4294967296 := by
    rw [Nat.div_lt_iff_lt_mul (Bpos _), Nat.mul_comm]; exact rowN_lt ha hw hx hc _
  have hs := set_mid l (digs a.length (rowN a w x c a.length)) (w.drop a.length) z a.length (rowN a w x c a.length / 4294967296 ^ a.length) (digs_len _ _) (by rw [List.length_drop]; omega)
  rw [List.drop_drop, List.drop_of_length_le (by omega : w.length ≤ a.length + 1), List.append_nil] at hs
  have he : digs a.length (rowN a w x c a.length) ++ [rowN a w x c a.length / 4294967296 ^ a.length] = digs (a.length + 1) (rowN a w x c a.length) := by
    rw [digs_succ, Nat.mod_eq_of_lt hlt]
  rw [he] at hs
  have ht : Int.toNat (((l.length : Nat) : Int) + ((a.length : Nat) : Int)) = l.length + a.length := by omega
  have hlen : (l ++ (digs a.length (rowN a w x c a.length) ++ w.drop a.length) ++ z).length = l.length + w.length + z.length := by
    simp only [List.length_append, digs_len, List.length_drop]; omega
  refine row_all hloop ?_ ?_ ?_
  all_goals first
    | exact ⟨by omega, by omega⟩
    | exact i64_ok (by omega) (by omega)
    | (rw [ht]; exact FEqset _ _ _ (by omega) hs)
theorem digs_append : ∀ (i k n : Nat), digs (i + k) n = digs i n ++ digs k (n / 4294967296 ^ i)
  | 0, k, n => by simp [digs]
  | i + 1, k, n => by
    rw [show i + 1 + k = (i + k) + 1 by omega, digs, digs_append i k, digs, List.cons_append, Nat.div_div_eq_div_mul, ← Bsucc]
noncomputable def B116 : Code := codeOf Tryz.f116
noncomputable def E116 : Env := EV PP 30 []
theorem D116 {args outs : List S} {gout : List (Nat × S)} {e : Fin} {res : S} (hg : Goes E116 B116 (entry 0 args) e gout) (he : e = .normal ∨ e = .ret) (hle : Nat.ble args.length 30 = true)
    (hfin : finE (tabOf PP) gout Tryz.f116.results.toList args [] = some (outs, res)) : Den PP 116 args outs res :=
  den_tab (fn := Tryz.f116) (c := B116) (by kernel_rfl) (by kernel_rfl) (by kernel_rfl) (by kernel_rfl) hle hfin hg he
noncomputable def L116a : Code := sub [true, true, false, true, false, false] B116
def sMul (ou a b : List Nat) (i : Nat) : List (Nat × S) := [(0, (W a)), (1, (W b)), (5, (WO ou)), (15, (W b)), (16, (num .i64 ((b.length : Nat) : Int))), (17, (num .i64 ((i : Nat) : Int)))]
theorem mul_in {ou r a b : List Nat} {i x : Nat}
    (h1 : Den PP 167 [(WO ou), (num .i64 ((i : Nat) : Int)), (W a), (u x), (u 0)] [(WO r), (num .i64 ((i : Nat) : Int)), (W a), (u x), (u 0)] (.tup []))
    (h2 : (decide (((i : Nat) : Int) < ((b.length : Nat) : Int))) = true)
    (h3 : idx b.length ((i : Nat) : Int))
    (h4 : (b.getD (Int.toNat ((i : Nat) : Int)) 0 : Int) = ((x : Nat) : Int))
    (h5 : inR .i64 (((i : Nat) : Int) + (1:Int)))
    (h6 : (((i : Nat) : Int) + (1:Int)) = ((i + 1 : Nat) : Int)) :
    Goes E116 L116a (sMul ou a b i) .normal (sMul r a b (i + 1)) :=
  pathG [.r [] [0, 1, 5, 15, 16, 17, 18], .t true, .r [] [0, 1, 5, 6, 7, 15, 16, 17, 18], .r [.c [(WO ou), (num .i64 ((i : Nat) : Int)), (W a), (u x), (u 0)] [(WO r), (num .i64 ((i : Nat) : Int)), (W a), (u x), (u 0)] (.tup [])] [0, 1, 5, 6, 7, 15, 16, 17, 18], .r [] [0, 1, 5, 6, 7, 15, 16, 17, 18]] ((cc h2 (cc h3 (cc (fq ou.length 1 (wf ou)) (cc (er ((i : Nat) : Int)) (cc (fq a.length 1 (wf a)) (cc h4 (cc (er (0:Int)) (cc h1 (cc h5 (cc (fq a.length 1 (wf a)) (cc (fq b.length 1 (wf b)) (cc (fq r.length 1 (wf r)) (cc (fq b.length 1 (wf b)) (cc (er ((b.length : Nat) : Int)) (cc h6 nn)))))))))))))))) (by kernel_rfl)
theorem mul_out {ou a b : List Nat} {i : Nat}
    (h1 : (decide (((i : Nat) : Int) < ((b.length : Nat) : Int))) = false) :
    Goes E116 L116a (sMul ou a b i) (.exit 0) (sMul ou a b i) :=
  pathG [.r [] [0, 1, 5, 15, 16, 17, 18], .t false] ((cc h1 (cc (fq a.length 1 (wf a)) (cc (fq b.length 1 (wf b)) (cc (fq ou.length 1 (wf ou)) (cc (fq b.length 1 (wf b)) (cc (er ((b.length : Nat) : Int)) (cc (er ((i : Nat) : Int)) nn)))))))) (by kernel_rfl)
theorem mul_all {a b ou g r : List Nat}
    (h1 : Loops E116 L116a (sMul ou a b 0) (.exit 0) (sMul g a b b.length))
    (h2 : Den PP 168 [(W g)] [(W g)] (WO r))
    (h3 : inR .i64 ((a.length : Int) + (b.length : Int)))
    (h4 : inR .i64 (((a.length : Int) + (b.length : Int)) + (1:Int)))
    (h5 : (((a.length : Int) + (b.length : Int)) + (1:Int)) = (((a.length : Int) + (b.length : Int)) + (1:Int)) ∧ 0 ≤ (((a.length : Int) + (b.length : Int)) + (1:Int)) ∧ (((a.length : Int) + (b.length : Int)) + (1:Int)) ≤ 140737488355328 ∧ (((a.length : Int) + (b.length : Int)) + (1:Int)) * 4 ≤ 140737488355328)
    (h6 : (Int.toNat (((a.length : Int) + (b.length : Int)) + (1:Int))) = ou.length ∧ FEq (Int.toNat (((a.length : Int) + (b.length : Int)) + (1:Int))) 1 (fun _ i => cellD ((([(.d (.v (.int .u32 (0:Int))))]).getD i nilC).plain)) (wf ou)) :
    Goes E116 B116 [(0, (W a)), (1, (W b))] .ret [(4, (WO r))] :=
  pathG [.r [] [0, 1, 4], .r [] [0, 1, 4, 5], .r [] [0, 1, 4, 5, 15, 16, 17], .l (sMul ou a b 0) (.exit 0) (sMul g a b b.length), .f 5, .r [.c [(W g)] [(W g)] (WO r)] [0, 1, 4, 5, 15, 16, 17]] ((cc h3 (cc h4 (cc h5 (cc (fq a.length 1 (wf a)) (cc (fq b.length 1 (wf b)) (cc h6 (cc (fq b.length 1 (wf b)) (cc (er (b.length : Int)) (cc (er (0:Int)) (cc h1 (cc (fq g.length 1 (wf g)) (cc h2 (cc (fq r.length 1 (wf r)) nn)))))))))))))) (by kernel_rfl)

theorem mul_step (la i k N x A : Nat) (hN : N < 4294967296 ^ (la + i)) (hA : A < 4294967296 ^ la) (hx : x < 4294967296) :
    digs i N ++ digs (la + 1) (x * A + N / 4294967296 ^ i) ++ digs k 0 = digs (i + (la + 1) + k) (N + 4294967296 ^ i * (x * A)) := by
  rw [digs_append (i + (la + 1)) k, digs_append i (la + 1)]
  have h1 : digs i (N + 4294967296 ^ i * (x * A)) = digs i N := by
    rw [← digs_mod i (N + _), Nat.add_mul_mod_self_left, digs_mod]
  have h2 : (N + 4294967296 ^ i * (x * A)) / 4294967296 ^ i = x * A + N / 4294967296 ^ i := by
    rw [Nat.add_mul_div_left _ _ (Bpos i), Nat.add_comm]
  have h3 : (N + 4294967296 ^ i * (x * A)) / 4294967296 ^ (i + (la + 1)) = 0 := by
    refine Nat.div_eq_of_lt ?_
    rw [Nat.pow_add, Nat.pow_succ]
    have e : x * A ≤ 4294967295 * (4294967296 ^ la - 1) := Nat.mul_le_mul (by omega) (by omega)
    have p1 := Bpos la
    have p2 := Bpos i
    rw [Nat.pow_add] at hN
    have e2 : 4294967296 ^ i * (x * A) ≤ 4294967296 ^ i * (4294967295 * (4294967296 ^ la - 1)) := Nat.mul_le_mul_left _ e
    have e3 : 4294967296 ^ i * (4294967295 * (4294967296 ^ la - 1)) = 4294967296 ^ i * (4294967296 ^ la * 4294967295) - 4294967296 ^ i * 4294967295 := by
      rw [Nat.mul_sub, Nat.mul_sub, Nat.mul_one, Nat.mul_comm 4294967295]
    have e4 : 4294967296 ^ i * (4294967296 ^ la * 4294967296) = 4294967296 ^ i * (4294967296 ^ la * 4294967295) + 4294967296 ^ i * 4294967296 ^ la := by
      rw [show (4294967296 : Nat) ^ la * 4294967296 = 4294967296 ^ la * 4294967295 + 4294967296 ^ la by omega, Nat.mul_add]
    rw [Nat.mul_comm (4294967296 ^ la)] at hN
    omega
  rw [h1, h2, h3]
theorem mul_loop (a b : List Nat) (ha : Wd a) (hb : Wd b) (la : a.length ≤ 1073741824) (lb : b.length ≤ 1073741824) : ∀ (j i : Nat), i + j = b.length →
    Loops E116 L116a (sMul (digs (a.length + b.length + 1) (val a * val (b.take i))) a b i) (.exit 0) (sMul (digs (a.length + b.length + 1) (val a * val b)) a b b.length)
  | 0, i, hi => by
    have : i = b.length := by omega
    subst this
    rw [List.take_length]
    exact .leave (mul_out (decide_eq_false (by omega))) (fun h => by cases h)
  | j + 1, i, hi => by
    have hA := val_lt ha
    have hN : val a * val (b.take i) < 4294967296 ^ (a.length + i) := by
      rw [Nat.pow_add]; exact Nat.mul_lt_mul'' hA (val_take_lt hb i)
    have hx := hb.getD i
    have hz : val a * val (b.take i) / 4294967296 ^ i < 4294967296 ^ a.length := by
      rw [Nat.div_lt_iff_lt_mul (Bpos i), ← Nat.pow_add]; exact hN
    have hsp : digs (a.length + b.length + 1) (val a * val (b.take i)) = digs i (val a * val (b.take i)) ++ digs (a.length + 1) (val a * val (b.take i) / 4294967296 ^ i) ++ digs (j + 1) 0 := by
      rw [show a.length + b.length + 1 = i + (a.length + 1) + (j + 1) by omega, digs_append (i + (a.length + 1)) (j + 1), digs_append i (a.length + 1), Nat.div_eq_of_lt (a := val a * val (b.take i)) (b := 4294967296 ^ (i + (a.length + 1)))]
      refine Nat.lt_of_lt_of_le hN (Nat.pow_le_pow_right (by omega) (by omega))
    have hr := prod_row (digs i (val a * val (b.take i))) (digs (a.length + 1) (val a * val (b.take i) / 4294967296 ^ i)) (digs (j + 1) 0) a (b.getD i 0) 0 ha (digs_Wd _ _) hx (by omega) (digs_len _ _) (by simp only [List.length_append, digs_len]; omega)
    have hrow : rowN a (digs (a.length + 1) (val a * val (b.take i) / 4294967296 ^ i)) (b.getD i 0) 0 a.length = b.getD i 0 * val a + val a * val (b.take i) / 4294967296 ^ i := by
      unfold rowN
      rw [List.take_length, digs_succ, List.take_left' (digs_len _ _), val_digs_lt hz, Nat.add_zero]
    rw [hrow, mul_step _ _ _ _ _ _ hN hA hx, ← hsp, digs_len] at hr
    have he : val a * val (b.take i) + 4294967296 ^ i * (b.getD i 0 * val a) = val a * val (b.take (i + 1)) := by
      rw [val_take_succ, Nat.mul_add, Nat.mul_left_comm (val a), Nat.mul_comm (b.getD i 0)]
    rw [he, show i + (a.length + 1) + (j + 1) = a.length + b.length + 1 by omega] at hr
    refine .again (mul_in (x := b.getD i 0) hr (decide_eq_true (by omega)) ?_ ?_ ?_ ?_) (mul_loop a b ha hb la lb j (i + 1) (by omega))
    all_goals first
      | exact ⟨by omega, by omega⟩
      | exact i64_ok (by omega) (by omega)
      | rfl
      | omega
theorem prod_mul (a b : List Nat) (ha : Wd a) (hb : Wd b) (la : a.length ≤ 1073741824) (lb : b.length ≤ 1073741824) :
    Den PP 116 [W a, W b] [W a, W b] (WO (wd (val a * val b))) := by
  refine D116 (gout := [(4, WO (wd (val a * val b)))]) (e := .ret) ?_ (by first | exact .inr rfl | exact .inl rfl) (by kernel_rfl) (by kernel_rfl)

  have hloop := mul_loop a b ha hb la lb b.length 0 (by omega)
  rw [List.take_zero, val, Nat.mul_zero] at hloop
  have hn := nat_norm (digs (a.length + b.length + 1) (val a * val b)) (by rw [digs_len]; omega)
  have hlt : val a * val b < 4294967296 ^ (a.length + b.length + 1) := by
    rw [show a.length + b.length + 1 = a.length + (b.length + 1) by omega, Nat.pow_add]
    exact Nat.mul_lt_mul'' (val_lt ha) (Nat.lt_of_lt_of_le (val_lt hb) (Nat.pow_le_pow_right (by omega) (by omega)))
  rw [trim_digs_lt hlt] at hn
  refine mul_all hloop hn ?_ ?_ ?_ ?_
  all_goals first
    | exact ⟨rfl, by omega, by omega, by omega⟩
    | exact i64_ok (by omega) (by omega)
    | (rw [digs_zero]; exact ⟨by simp; omega, FEq.words fun j hj => by simp [List.getD_eq_getElem?_getD, List.getElem?_replicate]; split <;> rfl⟩)
    | skip
end Go.X
namespace Go.X
open Go Go.Proofs
noncomputable def B245 : Code := codeOf Tryz.f245
noncomputable def E245 : Env := EV PP 23 []
theorem D245 {args outs : List S} {gout : List (Nat × S)} {e : Fin} {res : S} (hg : Goes E245 B245 (entry 0 args) e gout) (he : e = .normal ∨ e = .ret) (hle : Nat.ble args.length 23 = true)
    (hfin : finE (tabOf PP) gout Tryz.f245.results.toList args [] = some (outs, res)) : Den PP 245 args outs res :=
  den_tab (fn := Tryz.f245) (c := B245) (by kernel_rfl) (by kernel_rfl) (by kernel_rfl) (by kernel_rfl) hle hfin hg he
noncomputable def L245a : Code := sub [true, true, false, true, false, false] B245
def sLLen (x n s : Nat) : List (Nat × S) := [(0, (u x)), (3, (num .i64 ((n : Nat) : Int))), (4, (num .i64 ((s : Nat) : Int)))]
theorem llen_hit {x y n m s t : Nat}
    (h1 : (decide (((s : Nat) : Int) > (0:Int))) = true)
    (h2 : 0 ≤ ((s : Nat) : Int))
    (h3 : ((((x : Nat) : Int) / 2 ^ (min (Int.toNat ((s : Nat) : Int)) (IntKind.u32).bits)) != (0:Int)) = true)
    (h4 : inR .i64 (((n : Nat) : Int) + ((s : Nat) : Int)))
    (h5 : (2:Int) ≠ 0 ∧ (inR .i64 (Int.tdiv ((s : Nat) : Int) (2:Int))))
    (h6 : (((x : Nat) : Int) / 2 ^ (min (Int.toNat ((s : Nat) : Int)) (IntKind.u32).bits)) = ((y : Nat) : Int))
    (h7 : (((n : Nat) : Int) + ((s : Nat) : Int)) = ((m : Nat) : Int))
    (h8 : (Int.tdiv ((s : Nat) : Int) (2:Int)) = ((t : Nat) : Int)) :
    Goes E245 L245a (sLLen x n s) .normal (sLLen y m t) :=
  pathG [.r [] [0, 3, 4, 6], .t true, .r [] [0, 3, 4, 6, 12], .t true, .r [] [0, 3, 4, 6, 12], .r [] [0, 3, 4, 6, 12], .r [] [0, 3, 4, 6, 12]] ((cc h1 (cc h2 (cc h3 (cc h2 (cc h4 (cc h5 (cc h6 (cc h7 (cc h8 nn)))))))))) (by kernel_rfl)
theorem llen_miss {x n s t : Nat}
    (h1 : (decide (((s : Nat) : Int) > (0:Int))) = true)
    (h2 : 0 ≤ ((s : Nat) : Int))
    (h3 : ((((x : Nat) : Int) / 2 ^ (min (Int.toNat ((s : Nat) : Int)) (IntKind.u32).bits)) != (0:Int)) = false)
    (h4 : (2:Int) ≠ 0 ∧ (inR .i64 (Int.tdiv ((s : Nat) : Int) (2:Int))))
    (h5 : (Int.tdiv ((s : Nat) : Int) (2:Int)) = ((t : Nat) : Int)) :
    Goes E245 L245a (sLLen x n s) .normal (sLLen x n t) :=
  pathG [.r [] [0, 3, 4, 6], .t true, .r [] [0, 3, 4, 6, 12], .t false, .r [] [0, 3, 4, 6, 12]] ((cc h1 (cc h2 (cc h3 (cc h4 (cc (er ((x : Nat) : Int)) (cc (er ((n : Nat) : Int)) (cc h5 nn)))))))) (by kernel_rfl)
theorem llen_out {x n s : Nat}
    (h1 : (decide (((s : Nat) : Int) > (0:Int))) = false) :
    Goes E245 L245a (sLLen x n s) (.exit 0) (sLLen x n s) :=
  pathG [.r [] [0, 3, 4, 6], .t false] ((cc h1 (cc (er ((x : Nat) : Int)) (cc (er ((n : Nat) : Int)) (cc (er ((s : Nat) : Int)) nn))))) (by kernel_rfl)
theorem llen_all {x y n m s : Nat}
    (h1 : Loops E245 L245a (sLLen x 0 16) (.exit 0) (sLLen y n s))
    (h2 : inR .i64 ((y : Nat) : Int))
    (h3 : inR .i64 (((n : Nat) : Int) + ((y : Nat) : Int)))
    (h4 : (((n : Nat) : Int) + ((y : Nat) : Int)) = ((m : Nat) : Int)) :
    Goes E245 B245 [(0, (u x))] .ret [(2, (num .i64 ((m : Nat) : Int)))] :=
  pathG [.r [] [0, 2], .r [] [0, 2, 3], .r [] [0, 2, 3, 4], .l (sLLen x 0 16) (.exit 0) (sLLen y n s), .r [] [0, 2, 3, 4]] ((cc (er ((x : Nat) : Int)) (cc (er (0:Int)) (cc (er (16:Int)) (cc h1 (cc h2 (cc h3 (cc h4 nn)))))))) (by kernel_rfl)

/-- how many bits a number has -/
def nb (n : Nat) : Nat := if n = 0 then 0 else n.log2 + 1
theorem nb_zero : nb 0 = 0 := rfl
theorem lt_nb (n : Nat) : n < 2 ^ nb n := by
  unfold nb
  split
  · omega
  · exact Nat.lt_log2_self
theorem nb_eq {n k : Nat} (h1 : n < 2 ^ (k + 1)) (h2 : 2 ^ k ≤ n) : nb n = k + 1 := by
  have hp : 0 < 2 ^ k := Nat.pow_pos (by omega)
  have h0 : n ≠ 0 := by omega
  unfold nb
  rw [if_neg h0, (Nat.log2_eq_iff h0).2 ⟨h2, h1⟩]
theorem nb_pos {n : Nat} (h : n ≠ 0) : ∃ k, nb n = k + 1 ∧ 2 ^ k ≤ n := ⟨n.log2, by unfold nb; rw [if_neg h], Nat.log2_self_le h⟩
theorem nb_le {n k : Nat} (h : n < 2 ^ k) : nb n ≤ k := by
  by_cases h0 : n = 0
  · subst h0; simp [nb]
  · obtain ⟨j, e, hj⟩ := nb_pos h0
    rw [e]
    have : 2 ^ j < 2 ^ k := by omega
    have := (Nat.pow_lt_pow_iff_right (by omega : 1 < 2)).1 this
    omega
theorem nb_shift {n s : Nat} (h : n / 2 ^ s ≠ 0) : nb n = s + nb (n / 2 ^ s) := by
  obtain ⟨k, e, hk⟩ := nb_pos h
  have hp : 0 < 2 ^ s := Nat.pow_pos (by omega)
  have hl := lt_nb (n / 2 ^ s)
  rw [e] at hl
  rw [e, ← Nat.add_assoc]
  refine nb_eq ?_ ?_
  · rw [Nat.div_lt_iff_lt_mul hp, ← Nat.pow_add] at hl
    rwa [show s + k + 1 = k + 1 + s by omega]
  · rw [Nat.le_div_iff_mul_le hp, ← Nat.pow_add] at hk
    rwa [show s + k = k + s by omega]
theorem sh32 (s : Nat) (h : s ≤ 32) : (2 : Int) ^ (min (Int.toNat ((s : Nat) : Int)) (IntKind.u32).bits) = ((2 ^ s : Nat) : Int) := by
  rw [show min (Int.toNat ((s : Nat) : Int)) (IntKind.u32).bits = s by show min s 32 = s; omega]; simp
theorem sh64 (s : Nat) (h : s ≤ 64) : (2 : Int) ^ (min (Int.toNat ((s : Nat) : Int)) (IntKind.u64).bits) = ((2 ^ s : Nat) : Int) := by
  rw [show min (Int.toNat ((s : Nat) : Int)) (IntKind.u64).bits = s by show min s 64 = s; omega]; simp
theorem llen_step (x n s t : Nat) (hs : 0 < s) (hs2 : s ≤ 16) (ht : t = s / 2) (hx : x < 2 ^ (2 * s)) (hn : n ≤ 64) : ∃ y m, Goes E245 L245a (sLLen x n s) .normal (sLLen y m t) ∧ y < 2 ^ s ∧ nb x + n = nb y + m ∧ m ≤ n + s := by
  have hp : 0 < 2 ^ s := Nat.pow_pos (by omega)
  have hq : (Int.tdiv ((s : Nat) : Int) (2:Int)) = ((t : Nat) : Int) := by
    rw [ht]; exact (Int.ofNat_tdiv s 2)
  by_cases h : x / 2 ^ s = 0
  · refine ⟨x, n, llen_miss (t := t) ?_ ?_ ?_ ?_ ?_, ?_, rfl, by omega⟩
    · exact decide_eq_true (by omega)
    · omega
    · rw [sh32 s (by omega), ← Int.natCast_ediv, h]; rfl
    · exact ⟨by omega, by rw [hq]; exact i64_ok (by omega) (by omega)⟩
    · exact hq
    · exact (Nat.div_eq_zero_iff_lt hp).1 h
  · refine ⟨x / 2 ^ s, n + s, llen_hit (t := t) ?_ ?_ ?_ ?_ ?_ ?_ ?_ ?_, ?_, ?_, by omega⟩
    · exact decide_eq_true (by omega)
    · omega
    · rw [sh32 s (by omega), ← Int.natCast_ediv]
      simp only [bne_iff_ne, ne_eq]; omega
    · exact i64_ok (by omega) (by omega)
    · exact ⟨by omega, by rw [hq]; exact i64_ok (by omega) (by omega)⟩
    · rw [sh32 s (by omega), ← Int.natCast_ediv]
    · omega
    · exact hq
    · rw [Nat.div_lt_iff_lt_mul hp, ← Nat.pow_add, show s + s = 2 * s by omega]; exact hx
    · rw [nb_shift h]; omega
theorem limb_len (x : Nat) (hx : x < 4294967296) :
    Den PP 245 [u x] [u x] (num .i64 (nb x : Int)) := by
  refine D245 (gout := [(2, num .i64 (nb x : Int))]) (e := .ret) ?_ (by first | exact .inr rfl | exact .inl rfl) (by kernel_rfl) (by kernel_rfl)

  obtain ⟨x1, n1, g1, b1, e1, l1⟩ := llen_step x 0 16 8 (by omega) (by omega) rfl hx (by omega)
  obtain ⟨x2, n2, g2, b2, e2, l2⟩ := llen_step x1 n1 8 4 (by omega) (by omega) rfl b1 (by omega)
  obtain ⟨x3, n3, g3, b3, e3, l3⟩ := llen_step x2 n2 4 2 (by omega) (by omega) rfl b2 (by omega)
  obtain ⟨x4, n4, g4, b4, e4, l4⟩ := llen_step x3 n3 2 1 (by omega) (by omega) rfl b3 (by omega)
  obtain ⟨x5, n5, g5, b5, e5, l5⟩ := llen_step x4 n4 1 0 (by omega) (by omega) rfl b4 (by omega)
  have he : nb x5 = x5 := by
    match x5, b5 with
    | 0, _ => rfl
    | 1, _ => rfl
    | k + 2, h => omega
  refine llen_all (.again g1 (.again g2 (.again g3 (.again g4 (.again g5 (.leave (llen_out (decide_eq_false (by omega))) (fun h => by cases h))))))) ?_ ?_ ?_
  all_goals first
    | exact i64_ok (by omega) (by omega)
    | omega
end Go.X
