/- Part 17 of the proof of BackSums: Paths and contracts. Paths and contracts. No conditions but those that each theorem names. -/
import Derived.Test.YthmecihkgdaffaaGreatDoorP16
namespace Go.X
open Go Go.Proofs
noncomputable def B183 : Code := codeOf Tryz.f183
noncomputable def E183 : Env := EV PP 37 []
theorem D183 {args outs : List S} {gout : List (Nat × S)} {e : Fin} {res : S} (hg : Goes E183 B183 (entry 0 args) e gout) (he : e = .normal ∨ e = .ret) (hle : Nat.ble args.length 37 = true)
    (hfin : finE (tabOf PP) gout Tryz.f183.results.toList args [] = some (outs, res)) : Den PP 183 args outs res :=
  den_tab (fn := Tryz.f183) (c := B183) (by kernel_rfl) (by kernel_rfl) (by kernel_rfl) (by kernel_rfl) hle hfin hg he
noncomputable def L183a : Code := sub [true, true, true, false, true, false, false] B183
def sQW (q a : List Nat) (x r : Nat) (i : Int) : List (Nat × S) := [(0, (W a)), (1, (u x)), (4, (WO q)), (5, (u r)), (6, (bl false)), (7, (num .i64 i))]
theorem qw_in {q p a : List Nat} {x r y d s : Nat} {i j : Int}
    (h1 : Den PP 223 [(u r), (u y), (u x)] [(u r), (u y), (u x)] (.tup [uc d, uc s, bc true]))
    (h2 : (decide (i ≥ (0:Int))) = true)
    (h3 : idx a.length i)
    (h4 : (a.getD (Int.toNat i) 0 : Int) = ((y : Nat) : Int))
    (h5 : idx q.length i)
    (h6 : inR .i64 (i - (1:Int)))
    (h7 : q.length = p.length ∧ FEq q.length 1 (updF (wf q) (Int.toNat i) 0 [(.d (.v (.int .u32 ((d : Nat) : Int))))]) (wf p))
    (h8 : (i - (1:Int)) = j) :
    Goes E183 L183a (sQW q a x r i) .normal (sQW p a x s j) :=
  pathG [.r [] [0, 1, 4, 5, 6, 7, 17], .t true, .r [.c [(u r), (u y), (u x)] [(u r), (u y), (u x)] (.tup [uc d, uc s, bc true])] [0, 1, 4, 5, 6, 7, 17], .r [] [0, 1, 4, 5, 6, 7, 17]] ((cc h2 (cc h3 (cc (er ((r : Nat) : Int)) (cc h4 (cc (er ((x : Nat) : Int)) (cc h1 (cc h5 (cc h6 (cc (fq a.length 1 (wf a)) (cc (er ((x : Nat) : Int)) (cc h7 (cc (er ((s : Nat) : Int)) (cc (er false) (cc h8 nn))))))))))))))) (by kernel_rfl)
theorem qw_out {q a : List Nat} {x r : Nat} {i : Int}
    (h1 : (decide (i ≥ (0:Int))) = false) :
    Goes E183 L183a (sQW q a x r i) (.exit 0) (sQW q a x r i) :=
  pathG [.r [] [0, 1, 4, 5, 6, 7, 17], .t false] ((cc h1 (cc (fq a.length 1 (wf a)) (cc (er ((x : Nat) : Int)) (cc (fq q.length 1 (wf q)) (cc (er ((r : Nat) : Int)) (cc (er false) (cc (er i) nn)))))))) (by kernel_rfl)
theorem qw_all {a z g q : List Nat} {x r : Nat} {i j : Int}
    (h1 : Loops E183 L183a (sQW z a x 0 i) (.exit 0) (sQW g a x r j))
    (h2 : Den PP 168 [(W g)] [(W g)] (W q))
    (h3 : (((x : Nat) : Int) == (0:Int)) = false)
    (h4 : (a.length : Int) = (a.length : Int) ∧ 0 ≤ (a.length : Int) ∧ (a.length : Int) ≤ 140737488355328 ∧ (a.length : Int) * 4 ≤ 140737488355328)
    (h5 : inR .i64 ((a.length : Int) - (1:Int)))
    (h6 : (Int.toNat (a.length : Int)) = z.length ∧ FEq (Int.toNat (a.length : Int)) 1 (fun _ i => cellD ((([(.d (.v (.int .u32 (0:Int))))]).getD i nilC).plain)) (wf z))
    (h7 : ((a.length : Int) - (1:Int)) = i) :
    Goes E183 B183 [(0, (W a)), (1, (u x))] .ret [(4, (W q)), (5, (u r)), (6, (bl true))] :=
  pathG [.r [] [0, 1, 4, 5, 6], .r [] [0, 1, 4, 5, 6, 9], .t false, .r [] [0, 1, 4, 5, 6, 9], .r [] [0, 1, 4, 5, 6, 7, 9], .l (sQW z a x 0 i) (.exit 0) (sQW g a x r j), .f 4, .r [.c [(W g)] [(W g)] (W q)] [0, 1, 4, 5, 6, 7]] ((cc h3 (cc h4 (cc h5 (cc (fq a.length 1 (wf a)) (cc (er ((x : Nat) : Int)) (cc h6 (cc (er (0:Int)) (cc (er false) (cc h7 (cc h1 (cc (fq g.length 1 (wf g)) (cc h2 (cc (fq q.length 1 (wf q)) (cc (er ((r : Nat) : Int)) (cc (er true) nn)))))))))))))))) (by kernel_rfl)

theorem qw_arith (V x B' : Nat) (a : Nat) (hx : 0 < x) (_ha : a < B') : (V % x * B' + a) / x + B' * (V / x) = (a + B' * V) / x ∧ (V % x * B' + a) % x = (a + B' * V) % x := by
  have e : a + B' * V = (V % x * B' + a) + x * (B' * (V / x)) := by
    have h1 : V = x * (V / x) + V % x := (Nat.div_add_mod V x).symm
    calc a + B' * V = a + B' * (x * (V / x) + V % x) := by rw [← h1]
      _ = (V % x * B' + a) + x * (B' * (V / x)) := by
        rw [Nat.mul_add, Nat.mul_left_comm B' x, Nat.mul_comm B' (V % x)]; omega
  rw [e, Nat.add_mul_div_left _ _ hx, Nat.add_mul_mod_self_left]
  exact ⟨rfl, rfl⟩
theorem digs_cons (k n d : Nat) (h : d < 4294967296) : digs (k + 1) (d + 4294967296 * n) = d :: digs k n := by
  rw [digs, Nat.add_mul_mod_self_left, Nat.mod_eq_of_lt h, Nat.add_mul_div_left _ _ (by omega), Nat.div_eq_of_lt h, Nat.zero_add]
theorem set_zeros (k v : Nat) (s : List Nat) : (List.replicate (k + 1) 0 ++ s).set k v = List.replicate k 0 ++ v :: s := by
  rw [List.replicate_succ', List.append_assoc, List.singleton_append, set_app _ _ _ _ _ (by simp)]
theorem qw_loop (a : List Nat) (x : Nat) (ha : Wd a) (la : a.length ≤ 2147483648) (hx : 0 < x) (hx2 : x < 4294967296) : ∀ k, k ≤ a.length →
    Loops E183 L183a (sQW (List.replicate k 0 ++ digs (a.length - k) (val (a.drop k) / x)) a x (val (a.drop k) % x) ((k : Int) - 1)) (.exit 0) (sQW (digs a.length (val a / x)) a x (val a % x) (-1))
  | 0, hk => .leave (qw_out (decide_eq_false (by omega))) (fun h => by cases h)
  | k + 1, hk => by
    have hy := ha.getD k
    have hm := Nat.mod_lt (val (a.drop (k + 1))) hx
    have hd := limb_div (val (a.drop (k + 1)) % x) (a.getD k 0) x hm hx2 hy
    obtain ⟨q1, q2⟩ := qw_arith (val (a.drop (k + 1))) x 4294967296 (a.getD k 0) hx hy
    have hq : (val (a.drop (k + 1)) % x * 4294967296 + a.getD k 0) / x < 4294967296 := by
      rw [Nat.div_lt_iff_lt_mul hx]
      have := Nat.mul_le_mul_right 4294967296 (show val (a.drop (k + 1)) % x + 1 ≤ x from hm)
      rw [Nat.mul_comm 4294967296 x]; omega
    rw [← val_drop] at q1 q2
    rw [q2] at hd
    have hs := set_zeros k ((val (a.drop (k + 1)) % x * 4294967296 + a.getD k 0) / x) (digs (a.length - (k + 1)) (val (a.drop (k + 1)) / x))
    rw [← digs_cons _ _ _ hq, q1, show a.length - (k + 1) + 1 = a.length - k by omega] at hs
    have ht : Int.toNat (((k + 1 : Nat) : Int) - 1) = k := by omega
    have hlen : (List.replicate (k + 1) 0 ++ digs (a.length - (k + 1)) (val (a.drop (k + 1)) / x)).length = a.length := by
      simp only [List.length_append, digs_len, List.length_replicate]; omega
    refine .again (qw_in (y := a.getD k 0) hd ?_ ?_ ?_ ?_ ?_ ?_ ?_) (qw_loop a x ha la hx hx2 k (by omega))
    all_goals first
      | exact decide_eq_true (by omega)
      | exact ⟨by omega, by omega⟩
      | exact i64_ok (by omega) (by omega)
      | (rw [ht]; exact FEqset _ _ _ (by omega) hs)
      | (rw [ht])
      | omega
theorem quot_word (a : List Nat) (x : Nat) (ha : Wd a) (la : a.length ≤ 2147483648) (hx : 0 < x) (hx2 : x < 4294967296) :
    Den PP 183 [W a, u x] [W a, u x] (.tup [wc (wd (val a / x)), uc (val a % x), bc true]) := by
  refine D183 (gout := [(4, W (wd (val a / x))), (5, u (val a % x)), (6, bl true)]) (e := .ret) ?_ (by first | exact .inr rfl | exact .inl rfl) (by kernel_rfl) (by kernel_rfl)

  have hl := qw_loop a x ha la hx hx2 a.length (Nat.le_refl _)
  have hn := (nat_norm (digs a.length (val a / x)) (by rw [digs_len]; omega)).plain
  have hlt : val a / x < 4294967296 ^ a.length := Nat.lt_of_le_of_lt (Nat.div_le_self _ _) (val_lt ha)
  rw [trim_digs_lt hlt] at hn
  rw [List.drop_of_length_le (Nat.le_refl _), Nat.sub_self, digs, List.append_nil, val, Nat.zero_mod] at hl
  refine qw_all hl hn ?_ ?_ ?_ ?_ ?_
  all_goals first
    | exact ⟨rfl, by omega, by omega, by omega⟩
    | exact fresh_zeros (by omega)
    | exact i64_ok (by omega) (by omega)
    | (rw [beq_eq_false_iff_ne]; omega)
    | rfl
    | skip
noncomputable def B276 : Code := codeOf Tryz.f276
noncomputable def E276 : Env := EV PP 76 []
theorem D276 {args outs : List S} {gout : List (Nat × S)} {e : Fin} {res : S} (hg : Goes E276 B276 (entry 0 args) e gout) (he : e = .normal ∨ e = .ret) (hle : Nat.ble args.length 76 = true)
    (hfin : finE (tabOf PP) gout Tryz.f276.results.toList args [] = some (outs, res)) : Den PP 276 args outs res :=
  den_tab (fn := Tryz.f276) (c := B276) (by kernel_rfl) (by kernel_rfl) (by kernel_rfl) (by kernel_rfl) hle hfin hg he
noncomputable def L276a : Code := sub [true, false, true, true, true, false, false, false] B276
def sGu (a0 b1 b0 q r : Nat) : List (Nat × S) := [(2, (u a0)), (3, (u b1)), (4, (u b0)), (11, (u q)), (12, (u r))]
theorem gu_lt {a0 b1 b0 q r hi lo : Nat}
    (h1 : Den PP 207 [(u q), (u b0), (u 0), (u 0)] [(u q), (u b0), (u 0), (u 0)] (.tup [uc hi, uc lo]))
    (h2 : (decide (((hi : Nat) : Int) < ((r : Nat) : Int))) = true) :
    Goes E276 L276a (sGu a0 b1 b0 q r) (.exit 0) [(11, (u q))] :=
  pathG [.r [.c [(u q), (u b0), (u 0), (u 0)] [(u q), (u b0), (u 0), (u 0)] (.tup [uc hi, uc lo])] [2, 3, 4, 11, 12, 16, 17], .r [.b true, .b true, .b true, .b true, .b true] [2, 3, 4, 11, 12, 16, 17, 63], .t true] ((cc (er ((q : Nat) : Int)) (cc (er ((b0 : Nat) : Int)) (cc (er (0:Int)) (cc (er (0:Int)) (cc h1 (cc h2 (cc h2 (cc h2 (cc h2 (cc h2 (cc h2 (cc (er true) (cc (er ((q : Nat) : Int)) nn)))))))))))))) (by kernel_rfl)
theorem gu_eq {a0 b1 b0 q r hi lo : Nat}
    (h1 : Den PP 207 [(u q), (u b0), (u 0), (u 0)] [(u q), (u b0), (u 0), (u 0)] (.tup [uc hi, uc lo]))
    (h2 : (decide (((hi : Nat) : Int) < ((r : Nat) : Int))) = false)
    (h3 : (((hi : Nat) : Int) == ((r : Nat) : Int)) = true)
    (h4 : (decide (((lo : Nat) : Int) ≤ ((a0 : Nat) : Int))) = true) :
    Goes E276 L276a (sGu a0 b1 b0 q r) (.exit 0) [(11, (u q))] :=
  pathG [.r [.c [(u q), (u b0), (u 0), (u 0)] [(u q), (u b0), (u 0), (u 0)] (.tup [uc hi, uc lo])] [2, 3, 4, 11, 12, 16, 17], .r [.b false, .b false, .b false, .b false, .b true, .b true, .b true, .b false] [2, 3, 4, 11, 12, 16, 17, 63], .t true] ((cc (er ((q : Nat) : Int)) (cc (er ((b0 : Nat) : Int)) (cc (er (0:Int)) (cc (er (0:Int)) (cc h1 (cc h2 (cc h2 (cc h2 (cc h2 (cc h3 (cc h3 (cc h3 (cc h2 (cc tt (cc tt (cc (bf true h2 (bt false h3 h4)) (cc (er ((q : Nat) : Int)) nn)))))))))))))))))) (by kernel_rfl)
theorem gu_no1 {a0 b1 b0 q r p s hi lo c : Nat}
    (h1 : Den PP 207 [(u q), (u b0), (u 0), (u 0)] [(u q), (u b0), (u 0), (u 0)] (.tup [uc hi, uc lo]))
    (h2 : Den PP 249 [(u r), (u b1), (u 0)] [(u r), (u b1), (u 0)] (.tup [uc s, uc c]))
    (h3 : (decide (((hi : Nat) : Int) < ((r : Nat) : Int))) = false)
    (h4 : (((hi : Nat) : Int) == ((r : Nat) : Int)) = true)
    (h5 : (decide (((lo : Nat) : Int) ≤ ((a0 : Nat) : Int))) = false)
    (h6 : (decide (((c : Nat) : Int) > (0:Int))) = true)
    (h7 : (wr .u32 (((q : Nat) : Int) - (1:Int))) = ((p : Nat) : Int)) :
    Goes E276 L276a (sGu a0 b1 b0 q r) (.exit 0) [(11, (u p))] :=
  pathG [.r [.c [(u q), (u b0), (u 0), (u 0)] [(u q), (u b0), (u 0), (u 0)] (.tup [uc hi, uc lo])] [2, 3, 4, 11, 12, 16, 17], .r [.b false, .b false, .b false, .b false, .b true, .b true, .b true, .b false] [2, 3, 4, 11, 12, 16, 17, 63], .t false, .r [] [2, 3, 4, 11, 12, 16, 17, 63], .r [.c [(u r), (u b1), (u 0)] [(u r), (u b1), (u 0)] (.tup [uc s, uc c])] [2, 3, 4, 11, 12, 16, 17, 18, 19, 63], .r [] [2, 3, 4, 11, 12, 16, 17, 18, 19, 63, 73], .t true] ((cc (er ((q : Nat) : Int)) (cc (er ((b0 : Nat) : Int)) (cc (er (0:Int)) (cc (er (0:Int)) (cc h1 (cc h3 (cc h3 (cc h3 (cc h3 (cc h4 (cc h4 (cc h4 (cc h3 (cc tt (cc tt (cc (bf true h3 (bt false h4 h5)) (cc tt (cc (er ((r : Nat) : Int)) (cc (er ((b1 : Nat) : Int)) (cc (er (0:Int)) (cc h2 (cc h6 (cc h7 nn)))))))))))))))))))))))) (by kernel_rfl)
theorem gu_no2 {a0 b1 b0 q r p s hi lo c : Nat}
    (h1 : Den PP 207 [(u q), (u b0), (u 0), (u 0)] [(u q), (u b0), (u 0), (u 0)] (.tup [uc hi, uc lo]))
    (h2 : Den PP 249 [(u r), (u b1), (u 0)] [(u r), (u b1), (u 0)] (.tup [uc s, uc c]))
    (h3 : (decide (((hi : Nat) : Int) < ((r : Nat) : Int))) = false)
    (h4 : (((hi : Nat) : Int) == ((r : Nat) : Int)) = false)
    (h5 : (decide (((c : Nat) : Int) > (0:Int))) = true)
    (h6 : (wr .u32 (((q : Nat) : Int) - (1:Int))) = ((p : Nat) : Int)) :
    Goes E276 L276a (sGu a0 b1 b0 q r) (.exit 0) [(11, (u p))] :=
  pathG [.r [.c [(u q), (u b0), (u 0), (u 0)] [(u q), (u b0), (u 0), (u 0)] (.tup [uc hi, uc lo])] [2, 3, 4, 11, 12, 16, 17], .r [.b false, .b false, .b false, .b false, .b false, .b false, .b false, .b false] [2, 3, 4, 11, 12, 16, 17, 63], .t false, .r [] [2, 3, 4, 11, 12, 16, 17, 63], .r [.c [(u r), (u b1), (u 0)] [(u r), (u b1), (u 0)] (.tup [uc s, uc c])] [2, 3, 4, 11, 12, 16, 17, 18, 19, 63], .r [] [2, 3, 4, 11, 12, 16, 17, 18, 19, 63, 73], .t true] ((cc (er ((q : Nat) : Int)) (cc (er ((b0 : Nat) : Int)) (cc (er (0:Int)) (cc (er (0:Int)) (cc h1 (cc h3 (cc h3 (cc h3 (cc h3 (cc h4 (cc h4 (cc h4 (cc h3 (cc h4 (cc tt (cc (bf true h3 (er false)) (cc tt (cc (er ((r : Nat) : Int)) (cc (er ((b1 : Nat) : Int)) (cc (er (0:Int)) (cc h2 (cc h5 (cc h6 nn)))))))))))))))))))))))) (by kernel_rfl)
theorem gu_go1 {a0 b1 b0 q r p s hi lo c : Nat}
    (h1 : Den PP 207 [(u q), (u b0), (u 0), (u 0)] [(u q), (u b0), (u 0), (u 0)] (.tup [uc hi, uc lo]))
    (h2 : Den PP 249 [(u r), (u b1), (u 0)] [(u r), (u b1), (u 0)] (.tup [uc s, uc c]))
    (h3 : (decide (((hi : Nat) : Int) < ((r : Nat) : Int))) = false)
    (h4 : (((hi : Nat) : Int) == ((r : Nat) : Int)) = true)
    (h5 : (decide (((lo : Nat) : Int) ≤ ((a0 : Nat) : Int))) = false)
    (h6 : (decide (((c : Nat) : Int) > (0:Int))) = false)
    (h7 : (wr .u32 (((q : Nat) : Int) - (1:Int))) = ((p : Nat) : Int)) :
    Goes E276 L276a (sGu a0 b1 b0 q r) .normal (sGu a0 b1 b0 p s) :=
  pathG [.r [.c [(u q), (u b0), (u 0), (u 0)] [(u q), (u b0), (u 0), (u 0)] (.tup [uc hi, uc lo])] [2, 3, 4, 11, 12, 16, 17], .r [.b false, .b false, .b false, .b false, .b true, .b true, .b true, .b false] [2, 3, 4, 11, 12, 16, 17, 63], .t false, .r [] [2, 3, 4, 11, 12, 16, 17, 63], .r [.c [(u r), (u b1), (u 0)] [(u r), (u b1), (u 0)] (.tup [uc s, uc c])] [2, 3, 4, 11, 12, 16, 17, 18, 19, 63], .r [] [2, 3, 4, 11, 12, 16, 17, 18, 19, 63, 73], .t false, .r [] [2, 3, 4, 11, 12, 16, 17, 18, 19, 63, 73]] ((cc (er ((q : Nat) : Int)) (cc (er ((b0 : Nat) : Int)) (cc (er (0:Int)) (cc (er (0:Int)) (cc h1 (cc h3 (cc h3 (cc h3 (cc h3 (cc h4 (cc h4 (cc h4 (cc h3 (cc tt (cc tt (cc (bf true h3 (bt false h4 h5)) (cc tt (cc (er ((r : Nat) : Int)) (cc (er ((b1 : Nat) : Int)) (cc (er (0:Int)) (cc h2 (cc h6 (cc (er ((a0 : Nat) : Int)) (cc (er ((b1 : Nat) : Int)) (cc (er ((b0 : Nat) : Int)) (cc h7 (cc (er ((s : Nat) : Int)) nn)))))))))))))))))))))))))))) (by kernel_rfl)
theorem gu_go2 {a0 b1 b0 q r p s hi lo c : Nat}
    (h1 : Den PP 207 [(u q), (u b0), (u 0), (u 0)] [(u q), (u b0), (u 0), (u 0)] (.tup [uc hi, uc lo]))
    (h2 : Den PP 249 [(u r), (u b1), (u 0)] [(u r), (u b1), (u 0)] (.tup [uc s, uc c]))
    (h3 : (decide (((hi : Nat) : Int) < ((r : Nat) : Int))) = false)
    (h4 : (((hi : Nat) : Int) == ((r : Nat) : Int)) = false)
    (h5 : (decide (((c : Nat) : Int) > (0:Int))) = false)
    (h6 : (wr .u32 (((q : Nat) : Int) - (1:Int))) = ((p : Nat) : Int)) :
    Goes E276 L276a (sGu a0 b1 b0 q r) .normal (sGu a0 b1 b0 p s) :=
  pathG [.r [.c [(u q), (u b0), (u 0), (u 0)] [(u q), (u b0), (u 0), (u 0)] (.tup [uc hi, uc lo])] [2, 3, 4, 11, 12, 16, 17], .r [.b false, .b false, .b false, .b false, .b false, .b false, .b false, .b false] [2, 3, 4, 11, 12, 16, 17, 63], .t false, .r [] [2, 3, 4, 11, 12, 16, 17, 63], .r [.c [(u r), (u b1), (u 0)] [(u r), (u b1), (u 0)] (.tup [uc s, uc c])] [2, 3, 4, 11, 12, 16, 17, 18, 19, 63], .r [] [2, 3, 4, 11, 12, 16, 17, 18, 19, 63, 73], .t false, .r [] [2, 3, 4, 11, 12, 16, 17, 18, 19, 63, 73]] ((cc (er ((q : Nat) : Int)) (cc (er ((b0 : Nat) : Int)) (cc (er (0:Int)) (cc (er (0:Int)) (cc h1 (cc h3 (cc h3 (cc h3 (cc h3 (cc h4 (cc h4 (cc h4 (cc h3 (cc h4 (cc tt (cc (bf true h3 (er false)) (cc tt (cc (er ((r : Nat) : Int)) (cc (er ((b1 : Nat) : Int)) (cc (er (0:Int)) (cc h2 (cc h5 (cc (er ((a0 : Nat) : Int)) (cc (er ((b1 : Nat) : Int)) (cc (er ((b0 : Nat) : Int)) (cc h6 (cc (er ((s : Nat) : Int)) nn)))))))))))))))))))))))))))) (by kernel_rfl)
theorem gu_ok {a2 a1 a0 b1 b0 q r p : Nat} 
    (h1 : Den PP 223 [(u a2), (u a1), (u b1)] [(u a2), (u a1), (u b1)] (.tup [uc q, uc r, bc true]))
    (h2 : Loops E276 L276a (sGu a0 b1 b0 q r) (.exit 0) [(11, (u p))]) :
    Goes E276 B276 [(0, (u a2)), (1, (u a1)), (2, (u a0)), (3, (u b1)), (4, (u b0))] .ret [(10, (u p))] :=
  pathG [.r [] [0, 1, 2, 3, 4, 10], .r [.c [(u a2), (u a1), (u b1)] [(u a2), (u a1), (u b1)] (.tup [uc q, uc r, bc true])] [0, 1, 2, 3, 4, 10, 11, 12, 13], .r [] [0, 1, 2, 3, 4, 10, 11, 12, 13, 29], .t false, .l (sGu a0 b1 b0 q r) (.exit 0) [(11, (u p))], .r [] [10, 11]] ((cc (er ((a2 : Nat) : Int)) (cc (er ((a1 : Nat) : Int)) (cc (er ((b1 : Nat) : Int)) (cc h1 (cc (bn (er true)) (cc (er ((a0 : Nat) : Int)) (cc (er ((b1 : Nat) : Int)) (cc (er ((b0 : Nat) : Int)) (cc (er ((q : Nat) : Int)) (cc (er ((r : Nat) : Int)) (cc h2 (cc (er ((p : Nat) : Int)) nn))))))))))))) (by kernel_rfl)
theorem gu_top {a2 a1 a0 b1 b0 s c : Nat} 
    (h1 : Den PP 223 [(u a2), (u a1), (u b1)] [(u a2), (u a1), (u b1)] (.tup [uc 0, uc 0, bc false]))
    (h2 : Den PP 249 [(u a1), (u b1), (u 0)] [(u a1), (u b1), (u 0)] (.tup [uc s, uc c]))
    (h3 : (decide (((a2 : Nat) : Int) > ((b1 : Nat) : Int))) = false)
    (h4 : (decide (((c : Nat) : Int) > (0:Int))) = true) :
    Goes E276 B276 [(0, (u a2)), (1, (u a1)), (2, (u a0)), (3, (u b1)), (4, (u b0))] .ret [(10, (u 4294967295))] :=
  pathG [.r [] [0, 1, 2, 3, 4, 10], .r [.c [(u a2), (u a1), (u b1)] [(u a2), (u a1), (u b1)] (.tup [uc 0, uc 0, bc false])] [0, 1, 2, 3, 4, 10, 11, 12, 13], .r [] [0, 1, 2, 3, 4, 10, 11, 12, 13, 29], .t true, .r [] [0, 1, 2, 3, 4, 10, 11, 12, 13, 29], .r [.c [(u a1), (u b1), (u 0)] [(u a1), (u b1), (u 0)] (.tup [uc s, uc c])] [0, 1, 2, 3, 4, 10, 11, 12, 13, 14, 15, 29], .r [.b false, .b false] [0, 1, 2, 3, 4, 10, 11, 12, 13, 14, 15, 29, 42], .t true, .r [] [0, 1, 2, 3, 4, 10, 11, 12, 13, 14, 15, 29, 42]] ((cc (er ((a2 : Nat) : Int)) (cc (er ((a1 : Nat) : Int)) (cc (er ((b1 : Nat) : Int)) (cc h1 (cc (bn (er false)) (cc (er ((a1 : Nat) : Int)) (cc (er ((b1 : Nat) : Int)) (cc (er (0:Int)) (cc h2 (cc h3 (cc h3 (cc tt (cc (bf true h3 h4) (cc (er (4294967295:Int)) nn))))))))))))))) (by kernel_rfl)
theorem gu_max {a2 a1 a0 b1 b0 p s c : Nat} 
    (h1 : Den PP 223 [(u a2), (u a1), (u b1)] [(u a2), (u a1), (u b1)] (.tup [uc 0, uc 0, bc false]))
    (h2 : Den PP 249 [(u a1), (u b1), (u 0)] [(u a1), (u b1), (u 0)] (.tup [uc s, uc c]))
    (h3 : Loops E276 L276a (sGu a0 b1 b0 4294967295 s) (.exit 0) [(11, (u p))])
    (h4 : (decide (((a2 : Nat) : Int) > ((b1 : Nat) : Int))) = false)
    (h5 : (decide (((c : Nat) : Int) > (0:Int))) = false) :
    Goes E276 B276 [(0, (u a2)), (1, (u a1)), (2, (u a0)), (3, (u b1)), (4, (u b0))] .ret [(10, (u p))] :=
  pathG [.r [] [0, 1, 2, 3, 4, 10], .r [.c [(u a2), (u a1), (u b1)] [(u a2), (u a1), (u b1)] (.tup [uc 0, uc 0, bc false])] [0, 1, 2, 3, 4, 10, 11, 12, 13], .r [] [0, 1, 2, 3, 4, 10, 11, 12, 13, 29], .t true, .r [] [0, 1, 2, 3, 4, 10, 11, 12, 13, 29], .r [.c [(u a1), (u b1), (u 0)] [(u a1), (u b1), (u 0)] (.tup [uc s, uc c])] [0, 1, 2, 3, 4, 10, 11, 12, 13, 14, 15, 29], .r [.b false, .b false] [0, 1, 2, 3, 4, 10, 11, 12, 13, 14, 15, 29, 42], .t false, .r [] [0, 1, 2, 3, 4, 10, 11, 12, 13, 14, 15, 29, 42], .l (sGu a0 b1 b0 4294967295 s) (.exit 0) [(11, (u p))], .r [] [10, 11]] ((cc (er ((a2 : Nat) : Int)) (cc (er ((a1 : Nat) : Int)) (cc (er ((b1 : Nat) : Int)) (cc h1 (cc (bn (er false)) (cc (er ((a1 : Nat) : Int)) (cc (er ((b1 : Nat) : Int)) (cc (er (0:Int)) (cc h2 (cc h4 (cc h4 (cc tt (cc (bf true h4 h5) (cc (er ((a0 : Nat) : Int)) (cc (er ((b1 : Nat) : Int)) (cc (er ((b0 : Nat) : Int)) (cc (er (4294967295:Int)) (cc (er ((s : Nat) : Int)) (cc h3 (cc (er ((p : Nat) : Int)) nn))))))))))))))))))))) (by kernel_rfl)

/-- the guess -/
def gs (A b : Nat) : Nat := min 4294967295 (A / b)
theorem gs_eq {A b q : Nat} (hb : 0 < b) (hq : q ≤ 4294967295) (h1 : q * b ≤ A) (h2 : q = 4294967295 ∨ A < (q + 1) * b) : q = gs A b := by
  unfold gs
  have h3 : q ≤ A / b := (Nat.le_div_iff_mul_le hb).2 h1
  rcases h2 with h2 | h2
  · omega
  · have := (Nat.div_lt_iff_lt_mul hb).2 h2; omega
theorem gu_loop (a0 b1 b0 A : Nat) (h0 : a0 < 4294967296) (hb1 : b1 < 4294967296) (hb0 : b0 < 4294967296) (hbp : 0 < b1) : ∀ q r, q ≤ 4294967295 → r < 4294967296 →
    A = (q * b1 + r) * 4294967296 + a0 → (q = 4294967295 ∨ A < (q + 1) * (b1 * 4294967296 + b0)) →
    Loops E276 L276a (sGu a0 b1 b0 q r) (.exit 0) [(11, u (gs A (b1 * 4294967296 + b0)))] := by
  intro q
  induction q with
  | zero =>
    intro r hq hr hA h2
    have hm := limb_mul 0 b0 0 0 (by omega) hb0 (by omega) (by omega)
    have e : 0 = gs A (b1 * 4294967296 + b0) := gs_eq (by omega) (by omega) (by omega) h2
    rw [← e]
    by_cases hlt : 0 < r
    · exact .leave (gu_lt hm (decide_eq_true (by simp; omega))) (fun h => by cases h)
    · exact .leave (gu_eq hm (decide_eq_false (by simp; omega)) (by simp; omega) (decide_eq_true (by simp))) (fun h => by cases h)
  | succ q ih =>
    intro r hq hr hA h2
    have hm := limb_mul (q + 1) b0 0 0 (by omega) hb0 (by omega) (by omega)
    rw [Nat.add_zero, Nat.add_zero] at hm
    have hqb : (q + 1) * (b1 * 4294967296 + b0) = (q + 1) * b1 * 4294967296 + (q + 1) * b0 := by rw [Nat.mul_add, Nat.mul_assoc]
    have hqb' : (q + 1) * (b1 * 4294967296 + b0) = q * (b1 * 4294967296 + b0) + (b1 * 4294967296 + b0) := by rw [Nat.succ_mul]
    have hb1q : (q + 1) * b1 = q * b1 + b1 := Nat.succ_mul _ _
    have hlt0 : (q + 1) * b0 < 4294967296 * 4294967296 := Nat.mul_lt_mul'' (by omega) hb0
    generalize hP : (q + 1) * b0 = P at *
    generalize hX : (q + 1) * b1 = X at *
    by_cases hle : P ≤ r * 4294967296 + a0
    · have e : q + 1 = gs A (b1 * 4294967296 + b0) := gs_eq (by omega) (by omega) (by omega) h2
      rw [← e]
      by_cases hlt : P / 4294967296 < r
      · exact .leave (gu_lt hm (decide_eq_true (by omega))) (fun h => by cases h)
      · exact .leave (gu_eq hm (decide_eq_false (by omega)) (by rw [beq_iff_eq]; omega) (decide_eq_true (by omega))) (fun h => by cases h)
    · have hadd := limb_add r b1 0 hr hb1 (by omega)
      rw [Nat.add_zero] at hadd
      have hdec : wr .u32 (((q + 1 : Nat) : Int) - (1:Int)) = ((q : Nat) : Int) := by rw [wr32]; omega
      by_cases hc : 4294967296 ≤ r + b1
      · have hp : q * b0 ≤ P := by rw [← hP, Nat.succ_mul]; omega
        have e : q = gs A (b1 * 4294967296 + b0) := by
          refine gs_eq (by omega) (by omega) ?_ (.inr (by omega))
          have : q * (b1 * 4294967296 + b0) = q * b1 * 4294967296 + q * b0 := by rw [Nat.mul_add, Nat.mul_assoc]
          omega
        rw [← e]
        by_cases heq : P / 4294967296 = r
        · exact .leave (gu_no1 hm hadd (decide_eq_false (by omega)) (by rw [beq_iff_eq]; omega) (decide_eq_false (by omega)) (decide_eq_true (by omega)) hdec) (fun h => by cases h)
        · exact .leave (gu_no2 hm hadd (decide_eq_false (by omega)) (by rw [beq_eq_false_iff_ne]; omega) (decide_eq_true (by omega)) hdec) (fun h => by cases h)
      · have hA' : A = (q * b1 + (r + b1)) * 4294967296 + a0 := by rw [show q * b1 + (r + b1) = X + r by omega]; exact hA
        have ih' := ih (r + b1) (by omega) (by omega) hA' (.inr (by omega))
        rw [Nat.mod_eq_of_lt (by omega : r + b1 < 4294967296)] at hadd
        by_cases heq : P / 4294967296 = r
        · exact .again (gu_go1 hm hadd (decide_eq_false (by omega)) (by rw [beq_iff_eq]; omega) (decide_eq_false (by omega)) (decide_eq_false (by omega)) hdec) ih'
        · exact .again (gu_go2 hm hadd (decide_eq_false (by omega)) (by rw [beq_eq_false_iff_ne]; omega) (decide_eq_false (by omega)) hdec) ih'
theorem quot_guess (a2 a1 a0 b1 b0 : Nat) (h2 : a2 ≤ b1) (h1 : a1 < 4294967296) (h0 : a0 < 4294967296) (hb1 : b1 < 4294967296) (hb0 : b0 < 4294967296) (hbp : 0 < b1) :
    Den PP 276 [u a2, u a1, u a0, u b1, u b0] [u a2, u a1, u a0, u b1, u b0] (u (gs ((a2 * 4294967296 + a1) * 4294967296 + a0) (b1 * 4294967296 + b0))) := by
  refine D276 (gout := [(10, u (gs ((a2 * 4294967296 + a1) * 4294967296 + a0) (b1 * 4294967296 + b0)))]) (e := .ret) ?_ (by first | exact .inr rfl | exact .inl rfl) (by kernel_rfl) (by kernel_rfl)

  by_cases hlt : a2 < b1
  · have hd := limb_div a2 a1 b1 hlt hb1 h1
    have hq : (a2 * 4294967296 + a1) / b1 < 4294967296 := by
      rw [Nat.div_lt_iff_lt_mul hbp]
      have := Nat.mul_le_mul_right 4294967296 (show a2 + 1 ≤ b1 from hlt)
      rw [Nat.mul_comm 4294967296 b1]; omega
    have hdm := Nat.div_add_mod (a2 * 4294967296 + a1) b1
    have hmod := Nat.mod_lt (a2 * 4294967296 + a1) hbp
    refine gu_ok hd (gu_loop a0 b1 b0 ((a2 * 4294967296 + a1) * 4294967296 + a0) h0 hb1 hb0 hbp _ _ (by omega) (by omega) ?_ (.inr ?_))
    · rw [Nat.mul_comm _ b1, hdm]
    · rw [Nat.mul_add, ← Nat.mul_assoc, Nat.succ_mul, Nat.mul_comm _ b1]
      generalize b1 * ((a2 * 4294967296 + a1) / b1) = Z at *
      omega
  · have he : a2 = b1 := by omega
    subst he
    have hd := limb_div_no a2 a1 a2 (Nat.le_refl _)
    have hadd := limb_add a1 a2 0 h1 hb1 (by omega)
    rw [Nat.add_zero] at hadd
    by_cases hc : 4294967296 ≤ a1 + a2
    · have e : 4294967295 = gs ((a2 * 4294967296 + a1) * 4294967296 + a0) (a2 * 4294967296 + b0) := gs_eq (by omega) (by omega) (by omega) (.inl rfl)
      rw [← e]
      exact gu_top hd hadd (decide_eq_false (by omega)) (decide_eq_true (by omega))
    · rw [Nat.mod_eq_of_lt (by omega : a1 + a2 < 4294967296)] at hadd
      exact gu_max hd hadd (gu_loop a0 a2 b0 ((a2 * 4294967296 + a1) * 4294967296 + a0) h0 hb1 hb0 hbp _ _ (by omega) (by omega) (by omega) (.inl rfl)) (decide_eq_false (by omega)) (decide_eq_false (by omega))
end Go.X
namespace Go.X
open Go Go.Proofs
noncomputable def B277 : Code := codeOf Tryz.f277
noncomputable def E277 : Env := EV PP 66 [0]
theorem D277 {args outs : List S} {gout : List (Nat × S)} {e : Fin} {res : S} (hg : Goes E277 B277 (entry 0 args) e gout) (he : e = .normal ∨ e = .ret) (hle : Nat.ble args.length 66 = true)
    (hfin : finE (tabOf PP) gout Tryz.f277.results.toList args [0] = some (outs, res)) : Den PP 277 args outs res :=
  den_tab (fn := Tryz.f277) (c := B277) (by kernel_rfl) (by kernel_rfl) (by kernel_rfl) (by kernel_rfl) hle hfin hg he
noncomputable def L277a : Code := sub [true, true, false, true, false, false] B277
def sTk (ou b : List Nat) (at_ x c k i : Nat) : List (Nat × S) := [(0, (WO ou)), (1, (num .i64 ((at_ : Nat) : Int))), (2, (W b)), (3, (u x)), (9, (u c)), (10, (u k)), (15, (W b)), (16, (num .i64 ((b.length : Nat) : Int))), (17, (num .i64 ((i : Nat) : Int)))]
theorem tk_in {ou r b : List Nat} {at_ x c k i y o hi lo d e : Nat}
    (h1 : Den PP 207 [(u x), (u y), (u c), (u 0)] [(u x), (u y), (u c), (u 0)] (.tup [uc hi, uc lo]))
    (h2 : Den PP 250 [(u o), (u lo), (u k)] [(u o), (u lo), (u k)] (.tup [uc d, uc e]))
    (h3 : (decide (((i : Nat) : Int) < ((b.length : Nat) : Int))) = true)
    (h4 : idx b.length ((i : Nat) : Int))
    (h5 : (b.getD (Int.toNat ((i : Nat) : Int)) 0 : Int) = ((y : Nat) : Int))
    (h6 : inR .i64 (((at_ : Nat) : Int) + ((i : Nat) : Int)))
    (h7 : idx ou.length (((at_ : Nat) : Int) + ((i : Nat) : Int)))
    (h8 : (ou.getD (Int.toNat (((at_ : Nat) : Int) + ((i : Nat) : Int))) 0 : Int) = ((o : Nat) : Int))
    (h9 : inR .i64 (((i : Nat) : Int) + (1:Int)))
    (h10 : ou.length = r.length ∧ FEq ou.length 1 (updF (wf ou) (Int.toNat (((at_ : Nat) : Int) + ((i : Nat) : Int))) 0 [(.d (.v (.int .u32 ((d : Nat) : Int))))]) (wf r))
    (h11 : (((i : Nat) : Int) + (1:Int)) = ((i + 1 : Nat) : Int)) :
    Goes E277 L277a (sTk ou b at_ x c k i) .normal (sTk r b at_ x hi e (i + 1)) :=
  pathG [.r [] [0, 1, 2, 3, 9, 10, 15, 16, 17, 18], .t true, .r [] [0, 1, 2, 3, 9, 10, 11, 12, 15, 16, 17, 18], .r [] [0, 1, 2, 3, 9, 10, 11, 12, 13, 15, 16, 17, 18], .r [.c [(u x), (u y), (u c), (u 0)] [(u x), (u y), (u c), (u 0)] (.tup [uc hi, uc lo])] [0, 1, 2, 3, 9, 10, 11, 12, 13, 15, 16, 17, 18], .r [.c [(u o), (u lo), (u k)] [(u o), (u lo), (u k)] (.tup [uc d, uc e])] [0, 1, 2, 3, 9, 10, 11, 12, 13, 15, 16, 17, 18], .r [] [0, 1, 2, 3, 9, 10, 11, 12, 13, 15, 16, 17, 18]] ((cc h3 (cc h4 (cc (er ((x : Nat) : Int)) (cc h5 (cc (er ((c : Nat) : Int)) (cc (er (0:Int)) (cc h1 (cc h6 (cc h6 (cc h7 (cc h8 (cc (er ((lo : Nat) : Int)) (cc (er ((k : Nat) : Int)) (cc h2 (cc h7 (cc h9 (cc h10 (cc (er ((at_ : Nat) : Int)) (cc (fq b.length 1 (wf b)) (cc (er ((x : Nat) : Int)) (cc (er ((hi : Nat) : Int)) (cc (er ((e : Nat) : Int)) (cc (fq b.length 1 (wf b)) (cc (er ((b.length : Nat) : Int)) (cc h11 nn)))))))))))))))))))))))))) (by kernel_rfl)
theorem tk_out {ou b : List Nat} {at_ x c k i : Nat}
    (h1 : (decide (((i : Nat) : Int) < ((b.length : Nat) : Int))) = false) :
    Goes E277 L277a (sTk ou b at_ x c k i) (.exit 0) (sTk ou b at_ x c k i) :=
  pathG [.r [] [0, 1, 2, 3, 9, 10, 15, 16, 17, 18], .t false] ((cc h1 (cc (fq ou.length 1 (wf ou)) (cc (er ((at_ : Nat) : Int)) (cc (fq b.length 1 (wf b)) (cc (er ((x : Nat) : Int)) (cc (er ((c : Nat) : Int)) (cc (er ((k : Nat) : Int)) (cc (fq b.length 1 (wf b)) (cc (er ((b.length : Nat) : Int)) (cc (er ((i : Nat) : Int)) nn))))))))))) (by kernel_rfl)
theorem tk_all {ou r b g : List Nat} {at_ x c k o d e : Nat} {t : Bool}
    (h1 : Loops E277 L277a (sTk ou b at_ x 0 0 0) (.exit 0) (sTk g b at_ x c k b.length))
    (h2 : Den PP 250 [(u o), (u c), (u k)] [(u o), (u c), (u k)] (.tup [uc d, uc e]))
    (h3 : inR .i64 (((at_ : Nat) : Int) + (b.length : Int)))
    (h4 : idx g.length (((at_ : Nat) : Int) + (b.length : Int)))
    (h5 : (g.getD (Int.toNat (((at_ : Nat) : Int) + (b.length : Int))) 0 : Int) = ((o : Nat) : Int))
    (h6 : g.length = r.length ∧ FEq g.length 1 (updF (wf g) (Int.toNat (((at_ : Nat) : Int) + (b.length : Int))) 0 [(.d (.v (.int .u32 ((d : Nat) : Int))))]) (wf r))
    (h7 : (decide (((e : Nat) : Int) > (0:Int))) = t) :
    Goes E277 B277 [(0, (WO ou)), (1, (num .i64 ((at_ : Nat) : Int))), (2, (W b)), (3, (u x))] .ret [(0, (WO r)), (8, (bl t))] :=
  pathG [.r [] [0, 1, 2, 3, 8], .r [] [0, 1, 2, 3, 8, 9, 10], .r [] [0, 1, 2, 3, 8, 9, 10, 15, 16, 17], .l (sTk ou b at_ x 0 0 0) (.exit 0) (sTk g b at_ x c k b.length), .r [] [0, 1, 2, 3, 9, 10, 14, 15, 16, 17], .r [.c [(u o), (u c), (u k)] [(u o), (u c), (u k)] (.tup [uc d, uc e])] [0, 1, 2, 3, 9, 10, 14, 15, 16, 17], .r [] [0, 1, 2, 3, 8, 9, 10, 14, 15, 16, 17]] ((cc (fq ou.length 1 (wf ou)) (cc (er ((at_ : Nat) : Int)) (cc (fq b.length 1 (wf b)) (cc (er ((x : Nat) : Int)) (cc (er (0:Int)) (cc (er (0:Int)) (cc (fq b.length 1 (wf b)) (cc (er (b.length : Int)) (cc (er (0:Int)) (cc h1 (cc h3 (cc h4 (cc h5 (cc (er ((c : Nat) : Int)) (cc (er ((k : Nat) : Int)) (cc h2 (cc h4 (cc h6 (cc h7 nn)))))))))))))))))))) (by kernel_rfl)

/-- what is left, with a carry ahead, of a window less so many times a number -/
def tkN (w b : List Nat) (x i : Nat) : Nat := 4294967296 ^ i + val (w.take i) - x * val (b.take i) % 4294967296 ^ i
def tkP (b : List Nat) (x i : Nat) : Nat := x * val (b.take i)
theorem tkP_succ (b : List Nat) (x i : Nat) : tkP b x (i + 1) = tkP b x i + 4294967296 ^ i * (x * b.getD i 0) := by
  unfold tkP; rw [val_take_succ, Nat.mul_add, Nat.mul_left_comm]
theorem tkP_lt {b : List Nat} {x : Nat} (hb : Wd b) (hx : x < 4294967296) (i : Nat) : tkP b x i / 4294967296 ^ i < 4294967296 := by
  rw [Nat.div_lt_iff_lt_mul (Bpos i)]
  exact Nat.mul_lt_mul'' hx (val_take_lt hb i)
theorem tkN_succ (w b : List Nat) (x i : Nat) : tkN w b x (i + 1) = tkN w b x i + 4294967296 ^ i * (4294967295 + w.getD i 0 - (x * b.getD i 0 + tkP b x i / 4294967296 ^ i) % 4294967296) := by
  have hp : tkP b x (i + 1) % 4294967296 ^ (i + 1) = tkP b x i % 4294967296 ^ i + 4294967296 ^ i * ((x * b.getD i 0 + tkP b x i / 4294967296 ^ i) % 4294967296) := by
    rw [tkP_succ, Nat.pow_succ, Nat.mod_mul, Nat.add_mul_mod_self_left, Nat.add_mul_div_left _ _ (Bpos i), Nat.add_comm (x * _)]
  have h1 : tkP b x i % 4294967296 ^ i < 4294967296 ^ i := Nat.mod_lt _ (Bpos i)
  have h2 : (x * b.getD i 0 + tkP b x i / 4294967296 ^ i) % 4294967296 ≤ 4294967295 := by
    have := Nat.mod_lt (x * b.getD i 0 + tkP b x i / 4294967296 ^ i) (show 0 < 4294967296 by omega); omega
  show 4294967296 ^ (i + 1) + val (w.take (i + 1)) - tkP b x (i + 1) % 4294967296 ^ (i + 1) = 4294967296 ^ i + val (w.take i) - tkP b x i % 4294967296 ^ i + _
  rw [hp, val_take_succ, Nat.pow_succ]
  generalize (x * b.getD i 0 + tkP b x i / 4294967296 ^ i) % 4294967296 = m at *
  generalize tkP b x i % 4294967296 ^ i = p at *
  have h3 : 4294967296 ^ i * m ≤ 4294967296 ^ i * 4294967295 := Nat.mul_le_mul_left _ h2
  rw [Nat.mul_sub, Nat.mul_add]
  omega
theorem tkN_bound {w : List Nat} (hw : Wd w) (b : List Nat) (x i : Nat) : tkN w b x i < 2 * 4294967296 ^ i ∧ 0 < tkN w b x i := by
  have h1 := Nat.mod_lt (x * val (b.take i)) (Bpos i)
  have h2 := val_take_lt hw i
  unfold tkN
  omega
theorem tkN_div {w : List Nat} (hw : Wd w) (b : List Nat) (x i : Nat) : tkN w b x i / 4294967296 ^ i ≤ 1 := by
  have := (tkN_bound hw b x i).1
  have := (Nat.div_lt_iff_lt_mul (Bpos i)).2 this
  omega
/-- a word less another one and a borrow -/
theorem tk_dig {o lo q : Nat} (ho : o < 4294967296) (hl : lo < 4294967296) (hq : q ≤ 1) : (o + 8589934592 - lo - (1 - q)) % 4294967296 = (q + (4294967295 + o - lo)) % 4294967296 ∧ 2 - (o + 8589934592 - lo - (1 - q)) / 4294967296 = 1 - (q + (4294967295 + o - lo)) / 4294967296 := by
  have : o + 8589934592 - lo - (1 - q) = (q + (4294967295 + o - lo)) + 4294967296 := by omega
  rw [this]; omega
theorem tk_loop (l w z b : List Nat) (x : Nat) (hb : Wd b) (hw : Wd w) (hx : x < 4294967296) (hl : b.length ≤ w.length) (hn : (l ++ w ++ z).length ≤ 4294967296) : ∀ (j i : Nat), i + j = b.length →
    Loops E277 L277a (sTk (l ++ (digs i (tkN w b x i) ++ w.drop i) ++ z) b l.length x (tkP b x i / 4294967296 ^ i) (1 - tkN w b x i / 4294967296 ^ i) i) (.exit 0)
      (sTk (l ++ (digs b.length (tkN w b x b.length) ++ w.drop b.length) ++ z) b l.length x (tkP b x b.length / 4294967296 ^ b.length) (1 - tkN w b x b.length / 4294967296 ^ b.length) b.length)
  | 0, i, hi => by
    have : i = b.length := by omega
    subst this
    exact .leave (tk_out (decide_eq_false (by omega))) (fun h => by cases h)
  | j + 1, i, hi => by
    simp only [List.length_append] at hn
    have hlen : (l ++ (digs i (tkN w b x i) ++ w.drop i) ++ z).length = l.length + w.length + z.length := by
      simp only [List.length_append, digs_len, List.length_drop]; omega
    have hc := tkP_lt hb hx i
    have hm := limb_mul x (b.getD i 0) (tkP b x i / 4294967296 ^ i) 0 hx (hb.getD i) hc (by omega)
    rw [Nat.add_zero] at hm
    have hq := tkN_div hw b x i
    have hlo : (x * b.getD i 0 + tkP b x i / 4294967296 ^ i) % 4294967296 < 4294967296 := Nat.mod_lt _ (by omega)
    have hs := limb_sub (w.getD i 0) ((x * b.getD i 0 + tkP b x i / 4294967296 ^ i) % 4294967296) (1 - tkN w b x i / 4294967296 ^ i) (hw.getD i) hlo (Nat.lt_of_le_of_lt (Nat.sub_le _ _) (by omega))
    obtain ⟨d1, d2⟩ := tk_dig (hw.getD i) hlo hq
    rw [d1, d2] at hs
    have hset := set_mid l (digs i (tkN w b x i)) (w.drop i) z i ((tkN w b x i / 4294967296 ^ i + (4294967295 + w.getD i 0 - (x * b.getD i 0 + tkP b x i / 4294967296 ^ i) % 4294967296)) % 4294967296) (digs_len _ _) (by rw [List.length_drop]; omega)
    have hg := getD_mid l (digs i (tkN w b x i)) (w.drop i) z i (digs_len _ _) (by rw [List.length_drop]; omega)
    rw [drop_getD] at hg
    rw [List.drop_drop, ← digs_add, ← tkN_succ] at hset
    have e1 : (x * b.getD i 0 + tkP b x i / 4294967296 ^ i) / 4294967296 = tkP b x (i + 1) / 4294967296 ^ (i + 1) := by
      rw [tkP_succ, div_add, Nat.add_comm]
    have e2 : (tkN w b x i / 4294967296 ^ i + (4294967295 + w.getD i 0 - (x * b.getD i 0 + tkP b x i / 4294967296 ^ i) % 4294967296)) / 4294967296 = tkN w b x (i + 1) / 4294967296 ^ (i + 1) := by
      rw [tkN_succ, div_add]
    rw [e1] at hm
    rw [e2] at hs
    have ht : Int.toNat (((l.length : Nat) : Int) + ((i : Nat) : Int)) = l.length + i := by omega
    refine .again (tk_in (r := l ++ (digs (i + 1) (tkN w b x (i + 1)) ++ w.drop (i + 1)) ++ z) (y := b.getD i 0) (o := w.getD i 0) hm hs (decide_eq_true (by omega)) ?_ ?_ ?_ ?_ ?_ ?_ ?_ ?_) (tk_loop l w z b x hb hw hx hl (by simp only [List.length_append]; omega) j (i + 1) (by omega))
    all_goals first
      | exact ⟨by omega, by omega⟩
      | exact i64_ok (by omega) (by omega)
      | rfl
      | omega
      | (rw [ht]; exact FEqset _ _ _ (by omega) hset)
      | (rw [ht, hg])
theorem quot_take (l w z b : List Nat) (x : Nat) (hb : Wd b) (hw : Wd w) (hx : x < 4294967296) (hl : w.length = b.length + 1) (hn : (l ++ w ++ z).length ≤ 4294967296) :
    Den PP 277 [WO (l ++ w ++ z), num .i64 (l.length : Int), W b, u x] [WO (l ++ digs (b.length + 1) (4294967296 ^ (b.length + 1) + val w - x * val b) ++ z), num .i64 (l.length : Int), W b, u x] (bl (decide (val w < x * val b))) := by
  refine D277 (gout := [(0, WO (l ++ digs (b.length + 1) (4294967296 ^ (b.length + 1) + val w - x * val b) ++ z)), (8, bl (decide (val w < x * val b)))]) (e := .ret) ?_ (.inr rfl) (by kernel_rfl) (by kernel_rfl)
  have hloop := tk_loop l w z b x hb hw hx (by omega) hn b.length 0 (by omega)
  have h0 : tkN w b x 0 = 1 := by unfold tkN; simp [val]
  have h00 : tkP b x 0 = 0 := by unfold tkP; simp [val]
  rw [h0, h00, digs, Nat.pow_zero, Nat.div_one, Nat.div_one, List.drop_zero, List.nil_append, Nat.sub_self] at hloop
  simp only [List.length_append] at hn
  have hc := tkP_lt hb hx b.length
  have hq := tkN_div hw b x b.length
  have hs := limb_sub (w.getD b.length 0) (tkP b x b.length / 4294967296 ^ b.length) (1 - tkN w b x b.length / 4294967296 ^ b.length) (hw.getD _) hc (Nat.lt_of_le_of_lt (Nat.sub_le _ _) (by omega))
  obtain ⟨d1, d2⟩ := tk_dig (hw.getD b.length) hc hq
  rw [d1, d2] at hs
  have hset := set_mid l (digs b.length (tkN w b x b.length)) (w.drop b.length) z b.length ((tkN w b x b.length / 4294967296 ^ b.length + (4294967295 + w.getD b.length 0 - tkP b x b.length / 4294967296 ^ b.length)) % 4294967296) (digs_len _ _) (by rw [List.length_drop]; omega)
  have hg := getD_mid l (digs b.length (tkN w b x b.length)) (w.drop b.length) z b.length (digs_len _ _) (by rw [List.length_drop]; omega)
  rw [drop_getD] at hg
  have hb0 : b.getD b.length 0 = 0 := by rw [List.getD_eq_getElem?_getD, List.getElem?_eq_none (Nat.le_refl _)]; rfl
  have hN1 := tkN_succ w b x b.length
  rw [hb0, Nat.mul_zero, Nat.zero_add, Nat.mod_eq_of_lt hc] at hN1
  have hval : x * val b < 4294967296 ^ (b.length + 1) := by
    rw [Bsucc]; exact Nat.mul_lt_mul'' hx (val_lt hb)
  have hN2 : tkN w b x (b.length + 1) = 4294967296 ^ (b.length + 1) + val w - x * val b := by
    unfold tkN
    rw [List.take_of_length_le (by omega), List.take_of_length_le (by omega), Nat.mod_eq_of_lt hval]
  rw [List.drop_drop, List.drop_of_length_le (by omega : w.length ≤ b.length + 1), List.append_nil, ← digs_add, ← hN1, hN2] at hset
  have e2 : (tkN w b x b.length / 4294967296 ^ b.length + (4294967295 + w.getD b.length 0 - tkP b x b.length / 4294967296 ^ b.length)) / 4294967296 = (4294967296 ^ (b.length + 1) + val w - x * val b) / 4294967296 ^ (b.length + 1) := by
    rw [← hN2, hN1, div_add]
  rw [e2] at hs
  have ht : Int.toNat (((l.length : Nat) : Int) + ((b.length : Nat) : Int)) = l.length + b.length := by omega
  have hlen : (l ++ (digs b.length (tkN w b x b.length) ++ w.drop b.length) ++ z).length = l.length + w.length + z.length := by
    simp only [List.length_append, digs_len, List.length_drop]; omega
  have hbo : decide (((1 - (4294967296 ^ (b.length + 1) + val w - x * val b) / 4294967296 ^ (b.length + 1) : Nat) : Int) > (0:Int)) = decide (val w < x * val b) := by
    have hwl := val_lt hw
    rw [hl] at hwl
    by_cases h : val w < x * val b
    · rw [Nat.div_eq_of_lt (by omega)]; simp [h]
    · have : 1 ≤ (4294967296 ^ (b.length + 1) + val w - x * val b) / 4294967296 ^ (b.length + 1) := (Nat.le_div_iff_mul_le (Bpos _)).2 (by omega)
      rw [decide_eq_false h]; exact decide_eq_false (by omega)
  refine tk_all (o := w.getD b.length 0) hloop hs ?_ ?_ ?_ ?_ ?_
  all_goals first
    | exact ⟨by omega, by omega⟩
    | exact i64_ok (by omega) (by omega)
    | (rw [ht]; exact FEqset _ _ _ (by omega) hset)
    | (rw [ht, hg])
    | exact hbo
noncomputable def B278 : Code := codeOf Tryz.f278
noncomputable def E278 : Env := EV PP 44 [0]
theorem D278 {args outs : List S} {gout : List (Nat × S)} {e : Fin} {res : S} (hg : Goes E278 B278 (entry 0 args) e gout) (he : e = .normal ∨ e = .ret) (hle : Nat.ble args.length 44 = true)
    (hfin : finE (tabOf PP) gout Tryz.f278.results.toList args [0] = some (outs, res)) : Den PP 278 args outs res :=
  den_tab (fn := Tryz.f278) (c := B278) (by kernel_rfl) (by kernel_rfl) (by kernel_rfl) (by kernel_rfl) hle hfin hg he
noncomputable def L278a : Code := sub [true, false, true, false, false] B278
def sGv (ou b : List Nat) (at_ c i : Nat) : List (Nat × S) := [(0, (WO ou)), (1, (num .i64 ((at_ : Nat) : Int))), (2, (W b)), (6, (u c)), (9, (W b)), (10, (num .i64 ((b.length : Nat) : Int))), (11, (num .i64 ((i : Nat) : Int)))]
theorem gv_in {ou r b : List Nat} {at_ c i y o d e : Nat}
    (h1 : Den PP 249 [(u o), (u y), (u c)] [(u o), (u y), (u c)] (.tup [uc d, uc e]))
    (h2 : (decide (((i : Nat) : Int) < ((b.length : Nat) : Int))) = true)
    (h3 : idx b.length ((i : Nat) : Int))
    (h4 : inR .i64 (((at_ : Nat) : Int) + ((i : Nat) : Int)))
    (h5 : idx ou.length (((at_ : Nat) : Int) + ((i : Nat) : Int)))
    (h6 : (ou.getD (Int.toNat (((at_ : Nat) : Int) + ((i : Nat) : Int))) 0 : Int) = ((o : Nat) : Int))
    (h7 : (b.getD (Int.toNat ((i : Nat) : Int)) 0 : Int) = ((y : Nat) : Int))
    (h8 : inR .i64 (((i : Nat) : Int) + (1:Int)))
    (h9 : ou.length = r.length ∧ FEq ou.length 1 (updF (wf ou) (Int.toNat (((at_ : Nat) : Int) + ((i : Nat) : Int))) 0 [(.d (.v (.int .u32 ((d : Nat) : Int))))]) (wf r))
    (h10 : (((i : Nat) : Int) + (1:Int)) = ((i + 1 : Nat) : Int)) :
    Goes E278 L278a (sGv ou b at_ c i) .normal (sGv r b at_ e (i + 1)) :=
  pathG [.r [] [0, 1, 2, 6, 9, 10, 11, 12], .t true, .r [] [0, 1, 2, 6, 7, 8, 9, 10, 11, 12], .r [.c [(u o), (u y), (u c)] [(u o), (u y), (u c)] (.tup [uc d, uc e])] [0, 1, 2, 6, 7, 8, 9, 10, 11, 12], .r [] [0, 1, 2, 6, 7, 8, 9, 10, 11, 12]] ((cc h2 (cc h3 (cc h4 (cc h4 (cc h5 (cc h6 (cc h7 (cc (er ((c : Nat) : Int)) (cc h1 (cc h5 (cc h8 (cc h9 (cc (er ((at_ : Nat) : Int)) (cc (fq b.length 1 (wf b)) (cc (er ((e : Nat) : Int)) (cc (fq b.length 1 (wf b)) (cc (er ((b.length : Nat) : Int)) (cc h10 nn))))))))))))))))))) (by kernel_rfl)
theorem gv_out {ou b : List Nat} {at_ c i : Nat}
    (h1 : (decide (((i : Nat) : Int) < ((b.length : Nat) : Int))) = false) :
    Goes E278 L278a (sGv ou b at_ c i) (.exit 0) (sGv ou b at_ c i) :=
  pathG [.r [] [0, 1, 2, 6, 9, 10, 11, 12], .t false] ((cc h1 (cc (fq ou.length 1 (wf ou)) (cc (er ((at_ : Nat) : Int)) (cc (fq b.length 1 (wf b)) (cc (er ((c : Nat) : Int)) (cc (fq b.length 1 (wf b)) (cc (er ((b.length : Nat) : Int)) (cc (er ((i : Nat) : Int)) nn))))))))) (by kernel_rfl)
theorem gv_all {ou r b g : List Nat} {at_ c : Nat}
    (h1 : Loops E278 L278a (sGv ou b at_ 0 0) (.exit 0) (sGv g b at_ c b.length))
    (h2 : inR .i64 (((at_ : Nat) : Int) + (b.length : Int)))
    (h3 : idx g.length (((at_ : Nat) : Int) + (b.length : Int)))
    (h4 : g.length = r.length ∧ FEq g.length 1 (updF (wf g) (Int.toNat (((at_ : Nat) : Int) + (b.length : Int))) 0 [(.d (.v (.int .u32 (wr .u32 ((g.getD (Int.toNat (((at_ : Nat) : Int) + (b.length : Int))) 0 : Int) + ((c : Nat) : Int))))))]) (wf r)) :
    Goes E278 B278 [(0, (WO ou)), (1, (num .i64 ((at_ : Nat) : Int))), (2, (W b))] .normal [(0, (WO r))] :=
  pathG [.r [] [0, 1, 2, 6], .r [] [0, 1, 2, 6, 9, 10, 11], .l (sGv ou b at_ 0 0) (.exit 0) (sGv g b at_ c b.length), .r [] [0, 1, 2, 6, 9, 10, 11]] ((cc (fq ou.length 1 (wf ou)) (cc (er ((at_ : Nat) : Int)) (cc (fq b.length 1 (wf b)) (cc (er (0:Int)) (cc (fq b.length 1 (wf b)) (cc (er (b.length : Int)) (cc (er (0:Int)) (cc h1 (cc h2 (cc h3 (cc tt (cc h3 (cc h4 nn)))))))))))))) (by kernel_rfl)

def gvN (w b : List Nat) (i : Nat) : Nat := val (w.take i) + val (b.take i)
theorem gvN_succ (w b : List Nat) (i : Nat) : gvN w b (i + 1) = gvN w b i + 4294967296 ^ i * (w.getD i 0 + b.getD i 0) := by
  unfold gvN; rw [val_take_succ, val_take_succ, Nat.mul_add]; omega
theorem gvN_div {w b : List Nat} (hw : Wd w) (hb : Wd b) (i : Nat) : gvN w b i / 4294967296 ^ i ≤ 1 := by
  have h1 := val_take_lt hw i
  have h2 := val_take_lt hb i
  have : gvN w b i / 4294967296 ^ i < 2 := by
    rw [Nat.div_lt_iff_lt_mul (Bpos i)]; unfold gvN; omega
  omega
theorem gv_loop (l w z b : List Nat) (hb : Wd b) (hw : Wd w) (hl : b.length ≤ w.length) (hn : (l ++ w ++ z).length ≤ 4294967296) : ∀ (j i : Nat), i + j = b.length →
    Loops E278 L278a (sGv (l ++ (digs i (gvN w b i) ++ w.drop i) ++ z) b l.length (gvN w b i / 4294967296 ^ i) i) (.exit 0)
      (sGv (l ++ (digs b.length (gvN w b b.length) ++ w.drop b.length) ++ z) b l.length (gvN w b b.length / 4294967296 ^ b.length) b.length)
  | 0, i, hi => by
    have : i = b.length := by omega
    subst this
    exact .leave (gv_out (decide_eq_false (by omega))) (fun h => by cases h)
  | j + 1, i, hi => by
    simp only [List.length_append] at hn
    have hlen : (l ++ (digs i (gvN w b i) ++ w.drop i) ++ z).length = l.length + w.length + z.length := by
      simp only [List.length_append, digs_len, List.length_drop]; omega
    have hq := gvN_div hw hb i
    have hs := limb_add (w.getD i 0) (b.getD i 0) (gvN w b i / 4294967296 ^ i) (hw.getD i) (hb.getD i) (by omega)
    rw [Nat.add_comm (w.getD i 0 + b.getD i 0)] at hs
    have hset := set_mid l (digs i (gvN w b i)) (w.drop i) z i ((gvN w b i / 4294967296 ^ i + (w.getD i 0 + b.getD i 0)) % 4294967296) (digs_len _ _) (by rw [List.length_drop]; omega)
    have hg := getD_mid l (digs i (gvN w b i)) (w.drop i) z i (digs_len _ _) (by rw [List.length_drop]; omega)
    rw [drop_getD] at hg
    rw [List.drop_drop, ← digs_add, ← gvN_succ] at hset
    rw [← div_add, ← gvN_succ] at hs
    have ht : Int.toNat (((l.length : Nat) : Int) + ((i : Nat) : Int)) = l.length + i := by omega
    refine .again (gv_in (r := l ++ (digs (i + 1) (gvN w b (i + 1)) ++ w.drop (i + 1)) ++ z) (y := b.getD i 0) (o := w.getD i 0) hs (decide_eq_true (by omega)) ?_ ?_ ?_ ?_ ?_ ?_ ?_ ?_) (gv_loop l w z b hb hw hl (by simp only [List.length_append]; omega) j (i + 1) (by omega))
    all_goals first
      | exact ⟨by omega, by omega⟩
      | exact i64_ok (by omega) (by omega)
      | rfl
      | omega
      | (rw [ht]; exact FEqset _ _ _ (by omega) hset)
      | (rw [ht, hg])
theorem quot_give (l w z b : List Nat) (hb : Wd b) (hw : Wd w) (hl : w.length = b.length + 1) (hn : (l ++ w ++ z).length ≤ 4294967296) :
    Den PP 278 [WO (l ++ w ++ z), num .i64 (l.length : Int), W b] [WO (l ++ digs (b.length + 1) (val w + val b) ++ z), num .i64 (l.length : Int), W b] (.tup []) := by
  refine D278 (gout := [(0, WO (l ++ digs (b.length + 1) (val w + val b) ++ z))]) (e := .normal) ?_ (.inl rfl) (by kernel_rfl) (by kernel_rfl)
  have hloop := gv_loop l w z b hb hw (by omega) hn b.length 0 (by omega)
  have h0 : gvN w b 0 = 0 := by unfold gvN; simp [val]
  rw [h0, digs, Nat.pow_zero, Nat.div_one, List.drop_zero, List.nil_append] at hloop
  simp only [List.length_append] at hn
  have hq := gvN_div hw hb b.length
  have hset := set_mid l (digs b.length (gvN w b b.length)) (w.drop b.length) z b.length ((gvN w b b.length / 4294967296 ^ b.length + w.getD b.length 0) % 4294967296) (digs_len _ _) (by rw [List.length_drop]; omega)
  have hg := getD_mid l (digs b.length (gvN w b b.length)) (w.drop b.length) z b.length (digs_len _ _) (by rw [List.length_drop]; omega)
  rw [drop_getD] at hg
  have hb0 : b.getD b.length 0 = 0 := by rw [List.getD_eq_getElem?_getD, List.getElem?_eq_none (Nat.le_refl _)]; rfl
  have hN1 := gvN_succ w b b.length
  simp only [hb0, Nat.add_zero] at hN1
  have hN2 : gvN w b (b.length + 1) = val w + val b := by
    unfold gvN
    rw [List.take_of_length_le (by omega), List.take_of_length_le (by omega)]
  rw [List.drop_drop, List.drop_of_length_le (by omega : w.length ≤ b.length + 1), List.append_nil, ← digs_add, ← hN1, hN2] at hset
  have ht : Int.toNat (((l.length : Nat) : Int) + ((b.length : Nat) : Int)) = l.length + b.length := by omega
  have hlen : (l ++ (digs b.length (gvN w b b.length) ++ w.drop b.length) ++ z).length = l.length + w.length + z.length := by
    simp only [List.length_append, digs_len, List.length_drop]; omega
  have hwr : ∀ c o : Nat, wr .u32 ((o : Int) + (c : Int)) = (((c + o) % 4294967296 : Nat) : Int) := fun c o => by rw [wr32]; omega
  refine gv_all hloop ?_ ?_ ?_
  all_goals first
    | exact ⟨by omega, by omega⟩
    | exact i64_ok (by omega) (by omega)
    | (rw [ht, hg, hwr]; exact FEqset _ _ _ (by omega) hset)
end Go.X
