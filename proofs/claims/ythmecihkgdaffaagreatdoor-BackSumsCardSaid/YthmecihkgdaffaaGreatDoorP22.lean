/- Part 22 of the proof of BackSums: Paths and contracts. Paths and contracts. No conditions but those that each theorem names. -/
import Derived.Test.YthmecihkgdaffaaGreatDoorP21
namespace Go.X
open Go Go.Proofs
noncomputable def B201 : Code := codeOf Tryz.f201
noncomputable def E201 : Env := EV PP 32 []
theorem D201 {args outs : List S} {gout : List (Nat × S)} {e : Fin} {res : S} (hg : Goes E201 B201 (entry 0 args) e gout) (he : e = .normal ∨ e = .ret) (hle : Nat.ble args.length 32 = true)
    (hfin : finE (tabOf PP) gout Tryz.f201.results.toList args [] = some (outs, res)) : Den PP 201 args outs res :=
  den_tab (fn := Tryz.f201) (c := B201) (by kernel_rfl) (by kernel_rfl) (by kernel_rfl) (by kernel_rfl) hle hfin hg he
noncomputable def L201a : Code := sub [true, true, true, false, true, false, false] B201
def sHs (i x k : Nat) : List (Nat × S) := [(1, (num .i64 ((i : Nat) : Int))), (5, (u x)), (6, (num .i64 ((k : Nat) : Int)))]
theorem hs_go  {i x y k : Nat} 
    (h1 : (32:Int) ≠ 0)
    (h2 : (decide (((k : Nat) : Int) < (Int.tmod ((i : Nat) : Int) (32:Int)))) = true)
    (h3 : 0 ≤ ((x : Nat) : Int) ∧ 0 < (2:Int) ∧ (inR .u32 ((x : Nat) : Int)))
    (h4 : inR .i64 (((k : Nat) : Int) + (1:Int)))
    (h5 : (((x : Nat) : Int) / (2:Int)) = ((y : Nat) : Int))
    (h6 : (((k : Nat) : Int) + (1:Int)) = ((k + 1 : Nat) : Int)) :
    Goes E201 L201a (sHs i x k) .normal (sHs i y (k + 1)) :=
  pathG [.r [] [1, 5, 6, 24], .t true, .r [] [1, 5, 6, 24], .r [] [1, 5, 6, 24]] ((cc h1 (cc h2 (cc h3 (cc h4 (cc (er ((i : Nat) : Int)) (cc h5 (cc h6 nn)))))))) (by kernel_rfl)
theorem hs_end  {i x k : Nat} 
    (h1 : (32:Int) ≠ 0)
    (h2 : (decide (((k : Nat) : Int) < (Int.tmod ((i : Nat) : Int) (32:Int)))) = false) :
    Goes E201 L201a (sHs i x k) (.exit 0) (sHs i x k) :=
  pathG [.r [] [1, 5, 6, 24], .t false] ((cc h1 (cc h2 (cc (er ((i : Nat) : Int)) (cc (er ((x : Nat) : Int)) (cc (er ((k : Nat) : Int)) nn)))))) (by kernel_rfl)
theorem hs_no {a : List Nat} {i : Nat} 
    (h1 : (decide (((i : Nat) : Int) < (0:Int))) = false)
    (h2 : (32:Int) ≠ 0 ∧ (inR .i64 (Int.tdiv ((i : Nat) : Int) (32:Int))))
    (h3 : (decide ((Int.tdiv ((i : Nat) : Int) (32:Int)) ≥ (a.length : Int))) = true) :
    Goes E201 B201 [(0, (W a)), (1, (num .i64 ((i : Nat) : Int)))] .ret [(4, (bl false))] :=
  pathG [.r [] [0, 1, 4], .r [.b false, .b false, .b false, .b false, .b false] [0, 1, 4, 15], .t true, .r [] [0, 1, 4, 15]] ((cc h1 (cc h1 (cc h2 (cc h1 (cc h1 (cc h1 (cc tt (cc (bf true h1 h3) (cc (er false) nn)))))))))) (by kernel_rfl)
theorem hs_all {a : List Nat} {i x y k : Nat} {t : Bool}
    (h1 : Loops E201 L201a (sHs i x 0) (.exit 0) (sHs i y k))
    (h2 : (decide (((i : Nat) : Int) < (0:Int))) = false)
    (h3 : (32:Int) ≠ 0 ∧ (inR .i64 (Int.tdiv ((i : Nat) : Int) (32:Int))))
    (h4 : (decide ((Int.tdiv ((i : Nat) : Int) (32:Int)) ≥ (a.length : Int))) = false)
    (h5 : idx a.length (Int.tdiv ((i : Nat) : Int) (32:Int)))
    (h6 : (a.getD (Int.toNat (Int.tdiv ((i : Nat) : Int) (32:Int))) 0 : Int) = ((x : Nat) : Int))
    (h7 : 0 ≤ ((y : Nat) : Int) ∧ 0 < (2:Int))
    (h8 : ((((y : Nat) : Int) % (2:Int)) == (1:Int)) = t) :
    Goes E201 B201 [(0, (W a)), (1, (num .i64 ((i : Nat) : Int)))] .ret [(4, (bl t))] :=
  pathG [.r [] [0, 1, 4], .r [.b false, .b false, .b false, .b false, .b false] [0, 1, 4, 15], .t false, .r [] [0, 1, 4, 5, 15], .r [] [0, 1, 4, 5, 6, 15], .l (sHs i x 0) (.exit 0) (sHs i y k), .r [] [1, 4, 5, 6]] ((cc h2 (cc h2 (cc h3 (cc h2 (cc h2 (cc h2 (cc tt (cc (bf true h2 h4) (cc h3 (cc h5 (cc (er ((i : Nat) : Int)) (cc h6 (cc (er (0:Int)) (cc h1 (cc h7 (cc h8 nn))))))))))))))))) (by kernel_rfl)

theorem hs_loop (i : Nat) (hi : i ≤ 1099511627776) : ∀ (j k x : Nat), k + j = i % 32 → x < 4294967296 → Loops E201 L201a (sHs i x k) (.exit 0) (sHs i (x / 2 ^ j) (i % 32))
  | 0, k, x, hk, hx => by
    have : k = i % 32 := by omega
    subst this
    rw [Nat.pow_zero, Nat.div_one]
    exact .leave (hs_end (by omega) (decide_eq_false (by show ¬ (((i % 32 : Nat) : Int) < ((i : Nat) : Int).tmod 32); rw [show ((i : Nat) : Int).tmod 32 = ((i % 32 : Nat) : Int) by rfl]; omega))) (fun h => by cases h)
  | j + 1, k, x, hk, hx => by
    have ih := hs_loop i hi j (k + 1) (x / 2) (by omega) (by omega)
    rw [Nat.div_div_eq_div_mul, ← Nat.pow_succ'] at ih
    exact .again (hs_go (y := x / 2) (by omega) (decide_eq_true (by rw [show ((i : Nat) : Int).tmod 32 = ((i % 32 : Nat) : Int) by rfl]; omega)) ⟨by omega, by omega, by show (0 : Int) ≤ _ ∧ _ ≤ (4294967295 : Int); omega⟩ (i64_ok (by omega) (by omega)) rfl (by omega)) ih
theorem bit_dig {a : List Nat} (ha : Wd a) (i : Nat) : a.getD (i / 32) 0 / 2 ^ (i % 32) % 2 = val a / 2 ^ i % 2 := by
  rw [← down_val ha, val_drop]
  have hb : i % 32 < 32 := Nat.mod_lt _ (by omega)
  generalize i % 32 = b at *
  generalize val (a.drop (i / 32 + 1)) = y
  have e : a.getD (i / 32) 0 + 4294967296 * y = a.getD (i / 32) 0 + 2 ^ b * (2 * (2 ^ (31 - b) * y)) := by
    have : 2 ^ b * (2 * (2 ^ (31 - b) * y)) = 4294967296 * y := by
      rw [← Nat.mul_assoc 2, ← Nat.mul_assoc, ← Nat.pow_succ', ← Nat.pow_add, show b + (31 - b + 1) = 32 by omega]
    omega
  rw [e, Nat.add_mul_div_left _ _ (Nat.pow_pos (by omega)), Nat.add_mul_mod_self_left]
theorem ref_has (a : List Nat) (i : Nat) (ha : Wd a) (hi : i ≤ 1099511627776) :
    Den PP 201 [W a, num .i64 (i : Int)] [W a, num .i64 (i : Int)] (bl (decide (val a / 2 ^ i % 2 = 1))) := by
  refine D201 (gout := [(4, bl (decide (val a / 2 ^ i % 2 = 1)))]) (e := .ret) ?_ (by first | exact .inr rfl | exact .inl rfl) (by kernel_rfl) (by kernel_rfl)

  have hq : Int.tdiv ((i : Nat) : Int) (32:Int) = ((i / 32 : Nat) : Int) := rfl
  rw [← bit_dig ha i]
  by_cases h : i / 32 < a.length
  · have hx := ha.getD (i / 32)
    have hl := hs_loop i hi (i % 32) 0 (a.getD (i / 32) 0) (by omega) hx
    refine hs_all hl (decide_eq_false (by omega)) ⟨by omega, by rw [hq]; exact i64_ok (by omega) (by omega)⟩ (decide_eq_false (by rw [hq]; omega)) ⟨by rw [hq]; omega, by rw [hq]; omega⟩ (by rw [hq]; rfl) ⟨Int.natCast_nonneg _, by omega⟩ ?_
    generalize a.getD (i / 32) 0 / 2 ^ (i % 32) = z
    by_cases h1 : z % 2 = 1
    · rw [decide_eq_true h1, beq_iff_eq]; omega
    · rw [decide_eq_false h1, beq_eq_false_iff_ne]; omega
  · have h0 : a.getD (i / 32) 0 = 0 := by rw [List.getD_eq_getElem?_getD, List.getElem?_eq_none (by omega)]; rfl
    rw [h0, Nat.zero_div]
    exact hs_no (decide_eq_false (by omega)) ⟨by omega, by rw [hq]; exact i64_ok (by omega) (by omega)⟩ (decide_eq_true (by rw [hq]; omega))
noncomputable def B161 : Code := codeOf Tryz.f161
noncomputable def E161 : Env := EV PP 19 []
theorem D161 {args outs : List S} {gout : List (Nat × S)} {e : Fin} {res : S} (hg : Goes E161 B161 (entry 0 args) e gout) (he : e = .normal ∨ e = .ret) (hle : Nat.ble args.length 19 = true)
    (hfin : finE (tabOf PP) gout Tryz.f161.results.toList args [] = some (outs, res)) : Den PP 161 args outs res :=
  den_tab (fn := Tryz.f161) (c := B161) (by kernel_rfl) (by kernel_rfl) (by kernel_rfl) (by kernel_rfl) hle hfin hg he
noncomputable def L161a : Code := sub [true, true, false, false, false] B161
def sRL (a : List Nat) (n : Int) : List (Nat × S) := [(0, (W a)), (3, (num .i64 n))]
theorem rl_go {a : List Nat} {n m : Int}
    (h1 : Den PP 201 [(W a), (num .i64 (n - (1:Int)))] [(W a), (num .i64 (n - (1:Int)))] (bl false))
    (h2 : (decide (n > (0:Int))) = true)
    (h3 : inR .i64 (n - (1:Int)))
    (h4 : (n - (1:Int)) = m) :
    Goes E161 L161a (sRL a n) .normal (sRL a m) :=
  pathG [.r [.b true, .b true, .b true, .b true, .c [(W a), (num .i64 (n - (1:Int)))] [(W a), (num .i64 (n - (1:Int)))] (bl false), .b true] [0, 3, 15], .t true, .r [] [0, 3, 15]] ((cc h2 (cc h2 (cc h2 (cc h3 (cc h2 (cc (fq a.length 1 (wf a)) (cc (er (n - (1:Int))) (cc h1 (cc h2 (cc tt (cc (bt false h2 (bn (er false))) (cc h3 (cc (fq a.length 1 (wf a)) (cc h4 nn))))))))))))))) (by kernel_rfl)
theorem rl_stop {a : List Nat} {n : Int}
    (h1 : Den PP 201 [(W a), (num .i64 (n - (1:Int)))] [(W a), (num .i64 (n - (1:Int)))] (bl true))
    (h2 : (decide (n > (0:Int))) = true)
    (h3 : inR .i64 (n - (1:Int))) :
    Goes E161 L161a (sRL a n) (.exit 0) (sRL a n) :=
  pathG [.r [.b true, .b true, .b true, .b true, .c [(W a), (num .i64 (n - (1:Int)))] [(W a), (num .i64 (n - (1:Int)))] (bl true), .b true] [0, 3, 15], .t false] ((cc h2 (cc h2 (cc h2 (cc h3 (cc h2 (cc (fq a.length 1 (wf a)) (cc (er (n - (1:Int))) (cc h1 (cc h2 (cc tt (cc (bt false h2 (bn (er true))) (cc (fq a.length 1 (wf a)) (cc (er n) nn)))))))))))))) (by kernel_rfl)
theorem rl_zero {a : List Nat} {n : Int}
    (h1 : (decide (n > (0:Int))) = false) :
    Goes E161 L161a (sRL a n) (.exit 0) (sRL a n) :=
  pathG [.r [.b false, .b false, .b false, .b false, .b false] [0, 3, 15], .t false] ((cc h1 (cc h1 (cc h1 (cc h1 (cc h1 (cc h1 (cc (er false) (cc (fq a.length 1 (wf a)) (cc (er n) nn)))))))))) (by kernel_rfl)
theorem rl_all {a : List Nat} {n m : Int}
    (h1 : Loops E161 L161a (sRL a n) (.exit 0) (sRL a m))
    (h2 : inR .i64 ((32:Int) * (a.length : Int)))
    (h3 : ((32:Int) * (a.length : Int)) = n) :
    Goes E161 B161 [(0, (W a))] .ret [(2, (num .i64 m))] :=
  pathG [.r [] [0, 2], .r [] [0, 2, 3], .l (sRL a n) (.exit 0) (sRL a m), .r [] [0, 2, 3]] ((cc h2 (cc (fq a.length 1 (wf a)) (cc h3 (cc h1 (cc (er m) nn)))))) (by kernel_rfl)

theorem rl_loop (a : List Nat) (ha : Wd a) : ∀ n : Nat, val a < 2 ^ n → n ≤ 1099511627776 → Loops E161 L161a (sRL a (n : Int)) (.exit 0) (sRL a (nb (val a) : Int))
  | 0, h, _ => by
    have : val a = 0 := by simpa using h
    rw [this]
    exact .leave (rl_zero (decide_eq_false (by omega))) (fun h => by cases h)
  | n + 1, h, hn => by
    have hh := ref_has a n ha (by omega)
    have e : ((n + 1 : Nat) : Int) - (1:Int) = (n : Int) := by omega
    by_cases hlt : val a < 2 ^ n
    · rw [Nat.div_eq_of_lt hlt] at hh
      refine .again (rl_go (m := (n : Int)) ?_ (decide_eq_true (by omega)) (i64_ok (by omega) (by omega)) e) (rl_loop a ha n hlt (by omega))
      rw [e]; exact hh
    · have h1 : val a / 2 ^ n = 1 := by
        have hp : 0 < 2 ^ n := Nat.pow_pos (by omega)
        have l1 : val a / 2 ^ n < 2 := (Nat.div_lt_iff_lt_mul hp).2 (by rw [Nat.pow_succ] at h; omega)
        have l2 : 1 ≤ val a / 2 ^ n := (Nat.le_div_iff_mul_le hp).2 (by omega)
        omega
      rw [h1] at hh
      rw [nb_eq h (by omega)]
      refine .leave (rl_stop ?_ (decide_eq_true (by omega)) (i64_ok (by omega) (by omega))) (fun h => by cases h)
      rw [e]; exact hh
theorem ref_len (a : List Nat) (ha : Wd a) (la : a.length ≤ 2147483648) :
    Den PP 161 [W a] [W a] (num .i64 (nb (val a) : Int)) := by
  refine D161 (gout := [(2, num .i64 (nb (val a) : Int))]) (e := .ret) ?_ (by first | exact .inr rfl | exact .inl rfl) (by kernel_rfl) (by kernel_rfl)

  have h := rl_loop a ha (32 * a.length) (by rw [Nat.pow_mul]; exact val_lt ha) (by omega)
  refine rl_all h ?_ ?_
  all_goals first
    | exact i64_ok (by omega) (by omega)
    | omega
noncomputable def B111 : Code := codeOf Tryz.f111
noncomputable def E111 : Env := EV PP 54 []
theorem D111 {args outs : List S} {gout : List (Nat × S)} {e : Fin} {res : S} (hg : Goes E111 B111 (entry 0 args) e gout) (he : e = .normal ∨ e = .ret) (hle : Nat.ble args.length 54 = true)
    (hfin : finE (tabOf PP) gout Tryz.f111.results.toList args [] = some (outs, res)) : Den PP 111 args outs res :=
  den_tab (fn := Tryz.f111) (c := B111) (by kernel_rfl) (by kernel_rfl) (by kernel_rfl) (by kernel_rfl) hle hfin hg he
noncomputable def L111a : Code := sub [true, true, true, false, true, false, false] B111
def sDv (q r a b : List Nat) (i : Int) : List (Nat × S) := [(0, (W a)), (1, (W b)), (6, (WO q)), (7, (WO r)), (8, (num .i64 i))]
theorem dv_lt {q r q1 r1 a b : List Nat} {i j c : Int} {t : Bool}
    (h1 : Den PP 162 [(WO r), (bl t)] [(WO r1), (bl t)] (.tup []))
    (h2 : Den PP 162 [(WO q), (bl false)] [(WO q1), (bl false)] (.tup []))
    (h3 : Den PP 108 [(WO r1), (W b)] [(WO r1), (W b)] (num .i64 c))
    (h4 : (decide (i ≥ (0:Int))) = true)
    (h5 : (32:Int) ≠ 0 ∧ (inR .i64 (Int.tdiv i (32:Int))))
    (h6 : idx a.length (Int.tdiv i (32:Int)))
    (h7 : (32:Int) ≠ 0)
    (h8 : 0 ≤ (Int.tmod i (32:Int)) ∧ True)
    (h9 : 0 ≤ (a.getD (Int.toNat (Int.tdiv i (32:Int))) 0 : Int) ∧ 0 < (wr .u32 ((1:Int) * 2 ^ (min (Int.toNat (Int.tmod i (32:Int))) (IntKind.u32).bits))) ∧ (inR .u32 (a.getD (Int.toNat (Int.tdiv i (32:Int))) 0 : Int)))
    (h10 : 0 ≤ ((a.getD (Int.toNat (Int.tdiv i (32:Int))) 0 : Int) / (wr .u32 ((1:Int) * 2 ^ (min (Int.toNat (Int.tmod i (32:Int))) (IntKind.u32).bits)))) ∧ 0 < (2:Int))
    (h11 : ((((a.getD (Int.toNat (Int.tdiv i (32:Int))) 0 : Int) / (wr .u32 ((1:Int) * 2 ^ (min (Int.toNat (Int.tmod i (32:Int))) (IntKind.u32).bits)))) % (2:Int)) == (1:Int)) = t)
    (h12 : (decide (c ≥ (0:Int))) = false)
    (h13 : inR .i64 (i - (1:Int)))
    (h14 : (i - (1:Int)) = j) :
    Goes E111 L111a (sDv q r a b i) .normal (sDv q1 r1 a b j) :=
  pathG [.r [] [0, 1, 6, 7, 8, 20], .t true, .r [.c [(WO r), (bl t)] [(WO r1), (bl t)] (.tup [])] [0, 1, 6, 7, 8, 20], .r [.c [(WO q), (bl false)] [(WO q1), (bl false)] (.tup [])] [0, 1, 6, 7, 8, 20], .r [.c [(WO r1), (W b)] [(WO r1), (W b)] (num .i64 c)] [0, 1, 6, 7, 8, 20, 41], .t false, .r [] [0, 1, 6, 7, 8, 20, 41]] ((cc h4 (cc h5 (cc h6 (cc h7 (cc h8 (cc h9 (cc h10 (cc (fq r.length 1 (wf r)) (cc h11 (cc h1 (cc (fq q.length 1 (wf q)) (cc (er false) (cc h2 (cc (fq r1.length 1 (wf r1)) (cc (fq b.length 1 (wf b)) (cc h3 (cc h12 (cc h13 (cc (fq a.length 1 (wf a)) (cc (fq b.length 1 (wf b)) (cc (fq q1.length 1 (wf q1)) (cc (fq r1.length 1 (wf r1)) (cc h14 nn)))))))))))))))))))))))) (by kernel_rfl)
theorem dv_ge {q r q1 q2 r1 r2 a b : List Nat} {i j c : Int} {t : Bool}
    (h1 : Den PP 162 [(WO r), (bl t)] [(WO r1), (bl t)] (.tup []))
    (h2 : Den PP 162 [(WO q), (bl false)] [(WO q1), (bl false)] (.tup []))
    (h3 : Den PP 108 [(WO r1), (W b)] [(WO r1), (W b)] (num .i64 c))
    (h4 : Den PP 109 [(WO r1), (W b)] [(WO r2), (W b)] (.tup []))
    (h5 : (decide (i ≥ (0:Int))) = true)
    (h6 : (32:Int) ≠ 0 ∧ (inR .i64 (Int.tdiv i (32:Int))))
    (h7 : idx a.length (Int.tdiv i (32:Int)))
    (h8 : (32:Int) ≠ 0)
    (h9 : 0 ≤ (Int.tmod i (32:Int)) ∧ True)
    (h10 : 0 ≤ (a.getD (Int.toNat (Int.tdiv i (32:Int))) 0 : Int) ∧ 0 < (wr .u32 ((1:Int) * 2 ^ (min (Int.toNat (Int.tmod i (32:Int))) (IntKind.u32).bits))) ∧ (inR .u32 (a.getD (Int.toNat (Int.tdiv i (32:Int))) 0 : Int)))
    (h11 : 0 ≤ ((a.getD (Int.toNat (Int.tdiv i (32:Int))) 0 : Int) / (wr .u32 ((1:Int) * 2 ^ (min (Int.toNat (Int.tmod i (32:Int))) (IntKind.u32).bits)))) ∧ 0 < (2:Int))
    (h12 : ((((a.getD (Int.toNat (Int.tdiv i (32:Int))) 0 : Int) / (wr .u32 ((1:Int) * 2 ^ (min (Int.toNat (Int.tmod i (32:Int))) (IntKind.u32).bits)))) % (2:Int)) == (1:Int)) = t)
    (h13 : (decide (c ≥ (0:Int))) = true)
    (h14 : idx q1.length (0:Int))
    (h15 : inR .i64 (i - (1:Int)))
    (h16 : q1.length = q2.length ∧ FEq q1.length 1 (updF (wf q1) (Int.toNat (0:Int)) 0 [(.d (.v (.int .u32 (wr .u32 ((q1.getD (Int.toNat (0:Int)) 0 : Int) + (1:Int))))))]) (wf q2))
    (h17 : (i - (1:Int)) = j) :
    Goes E111 L111a (sDv q r a b i) .normal (sDv q2 r2 a b j) :=
  pathG [.r [] [0, 1, 6, 7, 8, 20], .t true, .r [.c [(WO r), (bl t)] [(WO r1), (bl t)] (.tup [])] [0, 1, 6, 7, 8, 20], .r [.c [(WO q), (bl false)] [(WO q1), (bl false)] (.tup [])] [0, 1, 6, 7, 8, 20], .r [.c [(WO r1), (W b)] [(WO r1), (W b)] (num .i64 c)] [0, 1, 6, 7, 8, 20, 41], .t true, .r [.c [(WO r1), (W b)] [(WO r2), (W b)] (.tup [])] [0, 1, 6, 7, 8, 20, 41], .r [] [0, 1, 6, 7, 8, 20, 41], .r [] [0, 1, 6, 7, 8, 20, 41]] ((cc h5 (cc h6 (cc h7 (cc h8 (cc h9 (cc h10 (cc h11 (cc (fq r.length 1 (wf r)) (cc h12 (cc h1 (cc (fq q.length 1 (wf q)) (cc (er false) (cc h2 (cc (fq r1.length 1 (wf r1)) (cc (fq b.length 1 (wf b)) (cc h3 (cc h13 (cc (fq r1.length 1 (wf r1)) (cc (fq b.length 1 (wf b)) (cc h4 (cc h14 (cc tt (cc h14 (cc h15 (cc (fq a.length 1 (wf a)) (cc (fq b.length 1 (wf b)) (cc h16 (cc (fq r2.length 1 (wf r2)) (cc h17 nn)))))))))))))))))))))))))))))) (by kernel_rfl)
theorem dv_out {q r a b : List Nat} {i : Int} 
    (h1 : (decide (i ≥ (0:Int))) = false) :
    Goes E111 L111a (sDv q r a b i) (.exit 0) (sDv q r a b i) :=
  pathG [.r [] [0, 1, 6, 7, 8, 20], .t false] ((cc h1 (cc (fq a.length 1 (wf a)) (cc (fq b.length 1 (wf b)) (cc (fq q.length 1 (wf q)) (cc (fq r.length 1 (wf r)) (cc (er i) nn))))))) (by kernel_rfl)
theorem dv_all {q r q1 r1 a b x y : List Nat} {i j n : Int} 
    (h1 : Den PP 161 [(W a)] [(W a)] (num .i64 n))
    (h2 : Loops E111 L111a (sDv q r a b i) (.exit 0) (sDv q1 r1 a b j))
    (h3 : Den PP 63 [(W q1)] [(W q1)] (W x))
    (h4 : Den PP 63 [(W r1)] [(W r1)] (W y))
    (h5 : (a.length : Int) = (a.length : Int) ∧ 0 ≤ (a.length : Int) ∧ (a.length : Int) ≤ 140737488355328 ∧ (a.length : Int) * 4 ≤ 140737488355328)
    (h6 : inR .i64 ((b.length : Int) + (1:Int)))
    (h7 : ((b.length : Int) + (1:Int)) = ((b.length : Int) + (1:Int)) ∧ 0 ≤ ((b.length : Int) + (1:Int)) ∧ ((b.length : Int) + (1:Int)) ≤ 140737488355328 ∧ ((b.length : Int) + (1:Int)) * 4 ≤ 140737488355328)
    (h8 : inR .i64 (n - (1:Int)))
    (h9 : (Int.toNat (a.length : Int)) = q.length ∧ FEq (Int.toNat (a.length : Int)) 1 (fun _ i => cellD ((([(.d (.v (.int .u32 (0:Int))))]).getD i nilC).plain)) (wf q))
    (h10 : (Int.toNat ((b.length : Int) + (1:Int))) = r.length ∧ FEq (Int.toNat ((b.length : Int) + (1:Int))) 1 (fun _ i => cellD ((([(.d (.v (.int .u32 (0:Int))))]).getD i nilC).plain)) (wf r))
    (h11 : (n - (1:Int)) = i) :
    Goes E111 B111 [(0, (W a)), (1, (W b))] .ret [(4, (W x)), (5, (W y))] :=
  pathG [.r [] [0, 1, 4, 5], .r [] [0, 1, 4, 5, 6], .r [] [0, 1, 4, 5, 6, 7], .r [.c [(W a)] [(W a)] (num .i64 n)] [0, 1, 4, 5, 6, 7, 8], .l (sDv q r a b i) (.exit 0) (sDv q1 r1 a b j), .f 6, .f 7, .r [.c [(W q1)] [(W q1)] (W x), .c [(W r1)] [(W r1)] (W y)] [0, 1, 4, 5, 6, 7, 8]] ((cc h5 (cc h6 (cc h7 (cc (fq a.length 1 (wf a)) (cc h1 (cc h8 (cc (fq a.length 1 (wf a)) (cc (fq b.length 1 (wf b)) (cc h9 (cc h10 (cc h11 (cc h2 (cc (fq q1.length 1 (wf q1)) (cc h3 (cc (fq r1.length 1 (wf r1)) (cc h4 (cc (fq x.length 1 (wf x)) (cc (fq y.length 1 (wf y)) nn))))))))))))))))))) (by kernel_rfl)

theorem ref_cmp_own (a b : List Nat) (ha : Wd a) (hb : Wd b) (la : a.length ≤ 4294967296) (lb : b.length ≤ 4294967296) : Den PP 108 [WO a, W b] [WO a, W b] (num .i64 (cmp3 (val a) (val b))) :=
  Den.lent (args := [W a, W b]) (.own (.same .nil)) rfl (ref_cmp a b ha hb la lb)
theorem dv_arith (A' D bit : Nat) (hD : 0 < D) (hb : bit ≤ 1) :
    (2 * (A' % D) + bit < D → (2 * A' + bit) / D = 2 * (A' / D) ∧ (2 * A' + bit) % D = 2 * (A' % D) + bit) ∧ (D ≤ 2 * (A' % D) + bit → (2 * A' + bit) / D = 2 * (A' / D) + 1 ∧ (2 * A' + bit) % D = 2 * (A' % D) + bit - D) := by
  have h1 := Nat.div_add_mod A' D
  have h2 := Nat.mod_lt A' hD
  generalize A' / D = Q at *
  generalize A' % D = R at *
  have e : 2 * A' + bit = D * (2 * Q) + (2 * R + bit) := by rw [← h1, Nat.mul_left_comm D]; omega
  have e2 : D * (2 * Q + 1) = D * (2 * Q) + D := by rw [Nat.mul_add, Nat.mul_one]
  constructor
  · intro h
    rw [e, Nat.mul_add_div hD, Nat.div_eq_of_lt h, Nat.mul_add_mod, Nat.mod_eq_of_lt h]
    exact ⟨rfl, rfl⟩
  · intro h
    have e3 : 2 * A' + bit = D * (2 * Q + 1) + (2 * R + bit - D) := by omega
    rw [e3, Nat.mul_add_div hD, Nat.div_eq_of_lt (by omega : 2 * R + bit - D < D), Nat.mul_add_mod, Nat.mod_eq_of_lt (by omega : 2 * R + bit - D < D)]
    exact ⟨rfl, rfl⟩
theorem half_step (V n : Nat) : V / 2 ^ n = 2 * (V / 2 ^ (n + 1)) + V / 2 ^ n % 2 := by
  rw [Nat.pow_succ, ← Nat.div_div_eq_div_mul]; omega
theorem digs_inc (m Q : Nat) (hm : 0 < m) : (digs m (2 * Q)).set 0 ((digs m (2 * Q)).getD 0 0 + 1) = digs m (2 * Q + 1) ∧ (digs m (2 * Q)).getD 0 0 + 1 < 4294967296 := by
  cases m with
  | zero => omega
  | succ m =>
    simp only [digs, List.set_cons_zero, List.getD_cons_zero]
    refine ⟨?_, by omega⟩
    rw [show 2 * Q % 4294967296 + 1 = (2 * Q + 1) % 4294967296 by omega, show (2 * Q + 1) / 4294967296 = 2 * Q / 4294967296 by omega]
theorem dv_loop (a b : List Nat) (D : Nat) (ha : Wd a) (hb : Wd b) (hbD : val b = D) (hD : 0 < D) (la : a.length ≤ 2147483647) (lb : b.length ≤ 2147483647) : ∀ n : Nat, n ≤ nb (val a) →
    Loops E111 L111a (sDv (digs a.length (val a / 2 ^ n / D)) (digs (b.length + 1) (val a / 2 ^ n % D)) a b ((n : Int) - 1)) (.exit 0) (sDv (digs a.length (val a / D)) (digs (b.length + 1) (val a % D)) a b (-1))
  | 0, _ => by
    rw [Nat.pow_zero, Nat.div_one]
    exact .leave (dv_out (decide_eq_false (by omega))) (fun h => by cases h)
  | n + 1, hn => by
    have ih := dv_loop a b D ha hb hbD hD la lb n (by omega)
    have hw := nb_words ha
    have hA := half_step (val a) n
    have hdig := bit_dig ha n
    have hbit : val a / 2 ^ n % 2 ≤ 1 := by omega
    obtain ⟨k1, k2⟩ := dv_arith (val a / 2 ^ (n + 1)) D (val a / 2 ^ n % 2) hD hbit
    rw [← hA] at k1 k2
    have hR := Nat.mod_lt (val a / 2 ^ (n + 1)) hD
    have hDlt := val_lt hb
    rw [hbD] at hDlt
    have hBk : D * 4294967296 ≤ 4294967296 ^ (b.length + 1) := by rw [Nat.pow_succ]; exact Nat.mul_le_mul_right _ (Nat.le_of_lt hDlt)
    have hQ : val a / 2 ^ (n + 1) / D < 4294967296 ^ a.length := Nat.lt_of_le_of_lt (Nat.div_le_self _ _) (Nat.lt_of_le_of_lt (Nat.div_le_self _ _) (val_lt ha))
    have hd1 := ref_double (b.length + 1) (val a / 2 ^ (n + 1) % D) (decide (val a / 2 ^ n % 2 = 1)) (by omega) (by omega)
    have hd2 := ref_double a.length (val a / 2 ^ (n + 1) / D) false (by omega) hQ
    have hif : (if (decide (val a / 2 ^ n % 2 = 1)) = true then 1 else 0) = val a / 2 ^ n % 2 := by
      by_cases h : val a / 2 ^ n % 2 = 1
      · rw [if_pos (decide_eq_true h), h]
      · rw [if_neg (by simp [h])]; omega
    rw [hif] at hd1
    simp only [Bool.false_eq_true, if_false, Nat.add_zero] at hd2
    have hq : Int.tdiv ((n : Nat) : Int) (32:Int) = ((n / 32 : Nat) : Int) := rfl
    have hr : Int.tmod ((n : Nat) : Int) (32:Int) = ((n % 32 : Nat) : Int) := rfl
    have ei : ((n + 1 : Nat) : Int) - 1 = ((n : Nat) : Int) := by omega
    have hsh : wr .u32 ((1:Int) * 2 ^ (min (Int.toNat ((n % 32 : Nat) : Int)) (IntKind.u32).bits)) = ((2 ^ (n % 32) : Nat) : Int) := by
      rw [sh32 _ (by omega), Int.one_mul, wr32]
      have : 2 ^ (n % 32) < 4294967296 := Nat.pow_lt_pow_right (a := 2) (by omega) (by omega : n % 32 < 32)
      generalize 2 ^ (n % 32) = w at *
      omega
    have hp2 : 0 < 2 ^ (n % 32) := Nat.pow_pos (by omega)
    have hx := ha.getD (n / 32)
    have hn32 : n / 32 < a.length := by omega
    have hbits : ((((a.getD (n / 32) 0 : Nat) : Int) / ((2 ^ (n % 32) : Nat) : Int) % (2:Int)) == (1:Int)) = decide (val a / 2 ^ n % 2 = 1) := by
      rw [← hdig, ← Int.natCast_ediv]
      generalize a.getD (n / 32) 0 / 2 ^ (n % 32) = z
      by_cases h1 : z % 2 = 1
      · rw [decide_eq_true h1, beq_iff_eq]; omega
      · rw [decide_eq_false h1, beq_eq_false_iff_ne]; omega
    have hcmp := ref_cmp_own (digs (b.length + 1) (2 * (val a / 2 ^ (n + 1) % D) + val a / 2 ^ n % 2)) b (digs_Wd _ _) hb (by rw [digs_len]; omega) (by omega)
    rw [val_digs_lt (by omega), hbD] at hcmp
    rw [ei]
    have f5 : (32:Int) ≠ 0 ∧ inR .i64 (Int.tdiv ((n : Nat) : Int) (32:Int)) := ⟨by omega, by rw [hq]; exact i64_ok (by omega) (by omega)⟩
    have f6 : idx a.length (Int.tdiv ((n : Nat) : Int) (32:Int)) := ⟨by rw [hq]; omega, by rw [hq]; omega⟩
    have f8 : 0 ≤ Int.tmod ((n : Nat) : Int) (32:Int) ∧ True := ⟨by rw [hr]; omega, trivial⟩
    have f9 : 0 ≤ ((a.getD (Int.toNat (Int.tdiv ((n : Nat) : Int) (32:Int))) 0 : Nat) : Int) ∧ 0 < (wr .u32 ((1:Int) * 2 ^ (min (Int.toNat (Int.tmod ((n : Nat) : Int) (32:Int))) (IntKind.u32).bits))) ∧ (inR .u32 ((a.getD (Int.toNat (Int.tdiv ((n : Nat) : Int) (32:Int))) 0 : Nat) : Int)) := by
      rw [hr, hsh, hq]
      exact ⟨by omega, by omega, by show (0 : Int) ≤ _ ∧ _ ≤ (4294967295 : Int); rw [show Int.toNat ((n / 32 : Nat) : Int) = n / 32 by omega]; omega⟩
    have f10 : 0 ≤ (((a.getD (Int.toNat (Int.tdiv ((n : Nat) : Int) (32:Int))) 0 : Nat) : Int) / (wr .u32 ((1:Int) * 2 ^ (min (Int.toNat (Int.tmod ((n : Nat) : Int) (32:Int))) (IntKind.u32).bits)))) ∧ 0 < (2:Int) := by
      rw [hr, hsh, hq, ← Int.natCast_ediv]; exact ⟨Int.natCast_nonneg _, by omega⟩
    have f11 : ((((a.getD (Int.toNat (Int.tdiv ((n : Nat) : Int) (32:Int))) 0 : Nat) : Int) / (wr .u32 ((1:Int) * 2 ^ (min (Int.toNat (Int.tmod ((n : Nat) : Int) (32:Int))) (IntKind.u32).bits))) % (2:Int)) == (1:Int)) = decide (val a / 2 ^ n % 2 = 1) := by
      rw [hr, hsh, hq, ← hbits]; rfl
    by_cases hlt : 2 * (val a / 2 ^ (n + 1) % D) + val a / 2 ^ n % 2 < D
    · obtain ⟨g1, g2⟩ := k1 hlt
      rw [g1, g2] at ih
      exact .again (dv_lt hd1 hd2 hcmp (decide_eq_true (by omega)) f5 f6 (by omega) f8 f9 f10 f11 (decide_eq_false (by have := cmp3_lt.2 hlt; omega)) (i64_ok (by omega) (by omega)) rfl) ih
    · obtain ⟨g1, g2⟩ := k2 (by omega)
      rw [g1, g2] at ih
      have hls := ref_less (b.length + 1) (2 * (val a / 2 ^ (n + 1) % D) + val a / 2 ^ n % 2) b hb (by omega) (by omega) (by omega) (by omega)
      rw [hbD] at hls
      obtain ⟨i1, i2⟩ := digs_inc a.length (val a / 2 ^ (n + 1) / D) (by omega)
      refine .again (dv_ge (q2 := digs a.length (2 * (val a / 2 ^ (n + 1) / D) + 1)) hd1 hd2 hcmp hls (decide_eq_true (by omega)) f5 f6 (by omega) f8 f9 f10 f11 (decide_eq_true (by have h9 : ¬ cmp3 (2 * (val a / 2 ^ (n + 1) % D) + val a / 2 ^ n % 2) D < 0 := fun h => hlt (cmp3_lt.1 h); omega)) ⟨by omega, by rw [digs_len]; omega⟩ (i64_ok (by omega) (by omega)) ?_ rfl) ih
      rw [show wr .u32 (((digs a.length (2 * (val a / 2 ^ (n + 1) / D))).getD (Int.toNat (0:Int)) 0 : Nat) + (1:Int)) = (((digs a.length (2 * (val a / 2 ^ (n + 1) / D))).getD 0 0 + 1 : Nat) : Int) by
        rw [wr32, show Int.toNat (0:Int) = 0 by rfl]; omega]
      exact FEqset _ _ _ (by rw [digs_len]; omega) i1
theorem ref_div (a b : List Nat) (ha : Wd a) (hb : Wd b) (la : a.length ≤ 2147483647) (lb : b.length ≤ 2147483647) (h0 : val b ≠ 0) :
    Den PP 111 [W a, W b] [W a, W b] (.tup [wc (wd (val a / val b)), wc (wd (val a % val b))]) := by
  refine D111 (gout := [(4, W (wd (val a / val b))), (5, W (wd (val a % val b)))]) (e := .ret) ?_ (by first | exact .inr rfl | exact .inl rfl) (by kernel_rfl) (by kernel_rfl)

  have hn := ref_len a ha (by omega)
  have hl := dv_loop a b (val b) ha hb rfl (by omega) la lb (nb (val a)) (Nat.le_refl _)
  rw [Nat.div_eq_of_lt (lt_nb (val a)), Nat.zero_div, Nat.zero_mod, digs_zero, digs_zero] at hl
  have n1 := (ref_norm (digs a.length (val a / val b)) (by rw [digs_len]; omega)).plain
  have n2 := (ref_norm (digs (b.length + 1) (val a % val b)) (by rw [digs_len]; omega)).plain
  have hm := Nat.mod_lt (val a) (show 0 < val b by omega)
  have hbl := val_lt hb
  rw [trim_digs_lt (Nat.lt_of_le_of_lt (Nat.div_le_self _ _) (val_lt ha))] at n1
  rw [trim_digs_lt (Nat.lt_trans (Nat.lt_trans hm hbl) (Nat.pow_lt_pow_right (by omega) (by omega)))] at n2
  have hw := nb_words ha
  exact dv_all hn hl n1 n2 ⟨rfl, by omega, by omega, by omega⟩ (i64_ok (by omega) (by omega)) ⟨rfl, by omega, by omega, by omega⟩ (i64_ok (by omega) (by omega)) (fresh_zeros rfl) (fresh_zeros (by omega)) rfl
end Go.X
namespace Go.X
open Go Go.Proofs
noncomputable def B159 : Code := codeOf Tryz.f159
noncomputable def E159 : Env := EV PP 14 []
theorem D159 {args outs : List S} {gout : List (Nat × S)} {e : Fin} {res : S} (hg : Goes E159 B159 (entry 0 args) e gout) (he : e = .normal ∨ e = .ret) (hle : Nat.ble args.length 14 = true)
    (hfin : finE (tabOf PP) gout Tryz.f159.results.toList args [] = some (outs, res)) : Den PP 159 args outs res :=
  den_tab (fn := Tryz.f159) (c := B159) (by kernel_rfl) (by kernel_rfl) (by kernel_rfl) (by kernel_rfl) hle hfin hg he
noncomputable def L159a : Code := sub [true, true, true, false, false, false] B159
def sZr (x n : Nat) : List (Nat × S) := [(0, (u x)), (3, (num .i64 ((n : Nat) : Int)))]
theorem zr_go {x y n : Nat}
    (h1 : 0 ≤ ((x : Nat) : Int) ∧ 0 < (2:Int))
    (h2 : ((((x : Nat) : Int) % (2:Int)) == (0:Int)) = true)
    (h3 : 0 ≤ ((x : Nat) : Int) ∧ 0 < (2:Int) ∧ (inR .u32 ((x : Nat) : Int)))
    (h4 : inR .i64 (((n : Nat) : Int) + (1:Int)))
    (h5 : (((x : Nat) : Int) / (2:Int)) = ((y : Nat) : Int))
    (h6 : (((n : Nat) : Int) + (1:Int)) = ((n + 1 : Nat) : Int)) :
    Goes E159 L159a (sZr x n) .normal (sZr y (n + 1)) :=
  pathG [.r [] [0, 3, 8], .t true, .r [] [0, 3, 8], .r [] [0, 3, 8]] ((cc h1 (cc h2 (cc h3 (cc h4 (cc h5 (cc h6 nn))))))) (by kernel_rfl)
theorem zr_end {x n : Nat}
    (h1 : 0 ≤ ((x : Nat) : Int) ∧ 0 < (2:Int))
    (h2 : ((((x : Nat) : Int) % (2:Int)) == (0:Int)) = false) :
    Goes E159 L159a (sZr x n) (.exit 0) (sZr x n) :=
  pathG [.r [] [0, 3, 8], .t false] ((cc h1 (cc h2 (cc (er ((x : Nat) : Int)) (cc (er ((n : Nat) : Int)) nn))))) (by kernel_rfl)
theorem zr_all {x y n : Nat}
    (h1 : Loops E159 L159a (sZr x 0) (.exit 0) (sZr y n))
    (h2 : (((x : Nat) : Int) == (0:Int)) = false) :
    Goes E159 B159 [(0, (u x))] .ret [(2, (num .i64 ((n : Nat) : Int)))] :=
  pathG [.r [] [0, 2], .r [] [0, 2, 5], .t false, .r [] [0, 2, 3, 5], .l (sZr x 0) (.exit 0) (sZr y n), .r [] [0, 2, 3]] ((cc h2 (cc (er ((x : Nat) : Int)) (cc (er (0:Int)) (cc h1 (cc (er ((n : Nat) : Int)) nn)))))) (by kernel_rfl)

/-- how many noughts stand at the end of a number's bits -/
def ctz (n : Nat) : Nat := if h : n = 0 then 0 else if n % 2 = 1 then 0 else ctz (n / 2) + 1
termination_by n
decreasing_by exact Nat.div_lt_self (Nat.pos_of_ne_zero h) (by omega)
theorem ctz_odd {n : Nat} (h : n % 2 = 1) : ctz n = 0 := by rw [ctz]; rw [dif_neg (by omega), if_pos h]
theorem ctz_even {n : Nat} (h0 : n ≠ 0) (h : n % 2 = 0) : ctz n = ctz (n / 2) + 1 := by rw [ctz]; rw [dif_neg h0, if_neg (by omega)]
theorem ctz_mul (k m : Nat) (hm : m % 2 = 1) : ctz (2 ^ k * m) = k := by
  induction k with
  | zero => rw [Nat.pow_zero, Nat.one_mul, ctz_odd hm]
  | succ k ih =>
    have hp : 0 < 2 ^ k := Nat.pow_pos (by omega)
    have e : 2 ^ (k + 1) * m = 2 * (2 ^ k * m) := by rw [Nat.pow_succ, Nat.mul_comm (2 ^ k), Nat.mul_assoc]
    have h0 : 2 ^ k * m ≠ 0 := Nat.mul_ne_zero (by omega) (by omega)
    rw [e, ctz_even (by omega) (by omega), Nat.mul_div_cancel_left _ (by omega), ih]
theorem ctz_split : ∀ {n : Nat}, n ≠ 0 → ∃ m, m % 2 = 1 ∧ n = 2 ^ ctz n * m := by
  intro n
  induction n using Nat.strongRecOn with
  | _ n ih =>
    intro h0
    by_cases h : n % 2 = 1
    · exact ⟨n, h, by rw [ctz_odd h, Nat.pow_zero, Nat.one_mul]⟩
    · obtain ⟨m, h1, h2⟩ := ih (n / 2) (by omega) (by omega)
      refine ⟨m, h1, ?_⟩
      rw [ctz_even h0 (by omega), Nat.pow_succ, Nat.mul_comm (2 ^ _), Nat.mul_assoc, ← h2]
      omega
theorem zr_loop : ∀ (x n : Nat), x ≠ 0 → x < 4294967296 → n ≤ 4294967296 - x → Loops E159 L159a (sZr x n) (.exit 0) (sZr (x / 2 ^ ctz x) (n + ctz x)) := by
  intro x
  induction x using Nat.strongRecOn with
  | _ x ih =>
    intro n h0 hx hn
    by_cases h : x % 2 = 1
    · rw [ctz_odd h, Nat.pow_zero, Nat.div_one, Nat.add_zero]
      exact .leave (zr_end ⟨by omega, by omega⟩ (by rw [beq_eq_false_iff_ne]; omega)) (fun h => by cases h)
    · have := ih (x / 2) (by omega) (n + 1) (by omega) (by omega) (by omega)
      rw [ctz_even h0 (by omega), Nat.pow_succ, Nat.mul_comm (2 ^ _), ← Nat.div_div_eq_div_mul, ← Nat.add_assoc, Nat.add_right_comm]
      exact .again (zr_go (y := x / 2) ⟨by omega, by omega⟩ (by rw [beq_iff_eq]; omega) ⟨by omega, by omega, by show (0 : Int) ≤ _ ∧ _ ≤ (4294967295 : Int); omega⟩ (i64_ok (by omega) (by omega)) rfl (by omega)) this
theorem ref_zeros (x : Nat) (h0 : x ≠ 0) (hx : x < 4294967296) :
    Den PP 159 [u x] [u x] (num .i64 (ctz x : Int)) := by
  refine D159 (gout := [(2, num .i64 (ctz x : Int))]) (e := .ret) ?_ (by first | exact .inr rfl | exact .inl rfl) (by kernel_rfl) (by kernel_rfl)

  have h := zr_loop x 0 h0 hx (by omega)
  rw [Nat.zero_add] at h
  refine zr_all h ?_
  rw [beq_eq_false_iff_ne]; omega
noncomputable def B160 : Code := codeOf Tryz.f160
noncomputable def E160 : Env := EV PP 56 []
theorem D160 {args outs : List S} {gout : List (Nat × S)} {e : Fin} {res : S} (hg : Goes E160 B160 (entry 0 args) e gout) (he : e = .normal ∨ e = .ret) (hle : Nat.ble args.length 56 = true)
    (hfin : finE (tabOf PP) gout Tryz.f160.results.toList args [] = some (outs, res)) : Den PP 160 args outs res :=
  den_tab (fn := Tryz.f160) (c := B160) (by kernel_rfl) (by kernel_rfl) (by kernel_rfl) (by kernel_rfl) hle hfin hg he
noncomputable def L160a : Code := sub [true, false, true, false, false] B160
noncomputable def L160b : Code := sub [true, true, false, false, false] B160
def sDn (a : List Nat) (n i : Nat) : List (Nat × S) := [(0, (WO a)), (1, (num .i64 ((n : Nat) : Int))), (5, (num .i64 ((i : Nat) : Int)))]
def sDn2 (a : List Nat) : List (Nat × S) := [(0, (WO a))]
theorem dn_in {a r : List Nat} {n i x : Nat}
    (h1 : (decide (((i : Nat) : Int) < (a.length : Int))) = true)
    (h2 : inR .i64 (((i : Nat) : Int) + (1:Int)))
    (h3 : (decide ((((i : Nat) : Int) + (1:Int)) < (a.length : Int))) = true)
    (h4 : idx a.length (((i : Nat) : Int) + (1:Int)))
    (h5 : (wr .u64 (a.getD (Int.toNat (((i : Nat) : Int) + (1:Int))) 0 : Int)) = ((x : Nat) : Int))
    (h6 : idx a.length ((i : Nat) : Int))
    (h7 : 0 ≤ ((n : Nat) : Int))
    (h8 : a.length = r.length ∧ FEq a.length 1 (updF (wf a) (Int.toNat ((i : Nat) : Int)) 0 [(.d (.v (.int .u32 (wr .u32 ((wr .u64 ((wr .u64 (((x : Nat) : Int) * (4294967296:Int))) + (wr .u64 (a.getD (Int.toNat ((i : Nat) : Int)) 0 : Int)))) / 2 ^ (min (Int.toNat ((n : Nat) : Int)) (IntKind.u64).bits))))))]) (wf r))
    (h9 : (((i : Nat) : Int) + (1:Int)) = ((i + 1 : Nat) : Int)) :
    Goes E160 L160a (sDn a n i) .normal (sDn r n (i + 1)) :=
  pathG [.r [] [0, 1, 5, 10], .t true, .r [] [0, 1, 5, 6, 10], .r [] [0, 1, 5, 6, 10, 17], .t true, .r [] [0, 1, 5, 6, 10, 17], .u [(0, (WO a)), (1, (num .i64 ((n : Nat) : Int))), (5, (num .i64 ((i : Nat) : Int))), (6, (num .u64 ((x : Nat) : Int))), (10, (.one false [(.d (.v (.bool (decide (((i : Nat) : Int) < (a.length : Int))))))])), (17, (.one false [(.d (.v (.bool (decide ((((i : Nat) : Int) + (1:Int)) < (a.length : Int))))))]))], .r [] [0, 1, 5, 6, 10, 17], .r [] [0, 1, 5, 6, 10, 17]] ((cc h1 (cc h2 (cc h3 (cc h2 (cc h4 (cc tt (cc (fq a.length 1 (wf a)) (cc (er ((n : Nat) : Int)) (cc (er ((i : Nat) : Int)) (cc h5 (cc (er (decide (((i : Nat) : Int) < (a.length : Int)))) (cc (er (decide ((((i : Nat) : Int) + (1:Int)) < (a.length : Int)))) (cc tt (cc h6 (cc tt (cc tt (cc h7 (cc tt (cc h6 (cc h2 (cc h8 (cc (er ((n : Nat) : Int)) (cc h9 nn)))))))))))))))))))))))) (by kernel_rfl)
theorem dn_last {a r : List Nat} {n i : Nat}
    (h1 : (decide (((i : Nat) : Int) < (a.length : Int))) = true)
    (h2 : inR .i64 (((i : Nat) : Int) + (1:Int)))
    (h3 : (decide ((((i : Nat) : Int) + (1:Int)) < (a.length : Int))) = false)
    (h4 : idx a.length ((i : Nat) : Int))
    (h5 : 0 ≤ ((n : Nat) : Int))
    (h6 : a.length = r.length ∧ FEq a.length 1 (updF (wf a) (Int.toNat ((i : Nat) : Int)) 0 [(.d (.v (.int .u32 (wr .u32 ((wr .u64 ((wr .u64 ((0:Int) * (4294967296:Int))) + (wr .u64 (a.getD (Int.toNat ((i : Nat) : Int)) 0 : Int)))) / 2 ^ (min (Int.toNat ((n : Nat) : Int)) (IntKind.u64).bits))))))]) (wf r))
    (h7 : (((i : Nat) : Int) + (1:Int)) = ((i + 1 : Nat) : Int)) :
    Goes E160 L160a (sDn a n i) .normal (sDn r n (i + 1)) :=
  pathG [.r [] [0, 1, 5, 10], .t true, .r [] [0, 1, 5, 6, 10], .r [] [0, 1, 5, 6, 10, 17], .t false, .r [] [0, 1, 5, 6, 10, 17], .r [] [0, 1, 5, 6, 10, 17]] ((cc h1 (cc h2 (cc h3 (cc tt (cc h4 (cc tt (cc tt (cc h5 (cc tt (cc h4 (cc h2 (cc h6 (cc (er ((n : Nat) : Int)) (cc h7 nn))))))))))))))) (by kernel_rfl)
theorem dn_end {a : List Nat} {n i : Nat}
    (h1 : (decide (((i : Nat) : Int) < (a.length : Int))) = false) :
    Goes E160 L160a (sDn a n i) (.exit 0) (sDn a n i) :=
  pathG [.r [] [0, 1, 5, 10], .t false] ((cc h1 (cc (fq a.length 1 (wf a)) (cc (er ((n : Nat) : Int)) (cc (er ((i : Nat) : Int)) nn))))) (by kernel_rfl)
theorem dn_cut {a r : List Nat} 
    (h1 : (decide ((a.length : Int) > (0:Int))) = true)
    (h2 : inR .i64 ((a.length : Int) - (1:Int)))
    (h3 : idx a.length ((a.length : Int) - (1:Int)))
    (h4 : ((a.getD (Int.toNat ((a.length : Int) - (1:Int))) 0 : Int) == (0:Int)) = true)
    (h5 : 0 ≤ (0:Int) ∧ (0:Int) ≤ ((a.length : Int) - (1:Int)) ∧ ((a.length : Int) - (1:Int)) ≤ (a.length : Int))
    (h6 : ((Int.toNat ((a.length : Int) - (1:Int))) - (Int.toNat (0:Int))) = r.length ∧ FEq ((Int.toNat ((a.length : Int) - (1:Int))) - (Int.toNat (0:Int))) 1 (fun jq => (wf a) ((Int.toNat (0:Int)) + jq)) (wf r)) :
    Goes E160 L160b (sDn2 a) .normal (sDn2 r) :=
  pathG [.r [.b true, .b true, .b true, .b true, .b true, .b true, .b true] [0, 49], .t true, .r [] [0, 49]] ((cc h1 (cc h1 (cc h1 (cc h1 (cc h2 (cc h1 (cc h3 (cc h1 (cc h1 (cc tt (cc (bt false h1 h4) (cc h2 (cc h5 (cc h6 nn))))))))))))))) (by kernel_rfl)
theorem dn_stop {a : List Nat} 
    (h1 : (decide ((a.length : Int) > (0:Int))) = true)
    (h2 : inR .i64 ((a.length : Int) - (1:Int)))
    (h3 : idx a.length ((a.length : Int) - (1:Int)))
    (h4 : ((a.getD (Int.toNat ((a.length : Int) - (1:Int))) 0 : Int) == (0:Int)) = false) :
    Goes E160 L160b (sDn2 a) (.exit 2) (sDn2 a) :=
  pathG [.r [.b true, .b true, .b true, .b true, .b true, .b true, .b true] [0, 49], .t false] ((cc h1 (cc h1 (cc h1 (cc h1 (cc h2 (cc h1 (cc h3 (cc h1 (cc h1 (cc tt (cc (bt false h1 h4) (cc (fq a.length 1 (wf a)) nn))))))))))))) (by kernel_rfl)
theorem dn_nil {a : List Nat} 
    (h1 : (decide ((a.length : Int) > (0:Int))) = false) :
    Goes E160 L160b (sDn2 a) (.exit 2) (sDn2 a) :=
  pathG [.r [.b false, .b false, .b false, .b false, .b false, .b false, .b false] [0, 49], .t false] ((cc h1 (cc h1 (cc h1 (cc h1 (cc h1 (cc h1 (cc h1 (cc h1 (cc (er false) (cc (fq a.length 1 (wf a)) nn))))))))))) (by kernel_rfl)
theorem dn_all {a r g : List Nat} {n : Nat}
    (h1 : Loops E160 L160a (sDn a n 0) (.exit 0) (sDn g n g.length))
    (h2 : Loops E160 L160b (sDn2 g) (.exit 2) (sDn2 r)) :
    Goes E160 B160 [(0, (WO a)), (1, (num .i64 ((n : Nat) : Int)))] .ret [(0, (WO r)), (4, (.ref ⟨0, 0, none⟩))] :=
  pathG [.r [] [0, 1, 4], .r [] [0, 1, 4, 5], .l (sDn a n 0) (.exit 0) (sDn g n g.length), .l (sDn2 g) (.exit 2) (sDn2 r), .r [] [0, 4]] ((cc (fq a.length 1 (wf a)) (cc (er ((n : Nat) : Int)) (cc (er (0:Int)) (cc h1 (cc (fq g.length 1 (wf g)) (cc h2 (cc (fq r.length 1 (wf r)) nn)))))))) (by kernel_rfl)

theorem dn_loop (a : List Nat) (n : Nat) (ha : Wd a) (hn : n < 32) (la : a.length ≤ 2147483648) : ∀ (j i : Nat), i + j = a.length →
    Loops E160 L160a (sDn (digs i (val a / 2 ^ n) ++ a.drop i) n i) (.exit 0) (sDn (digs a.length (val a / 2 ^ n)) n (digs a.length (val a / 2 ^ n)).length)
  | 0, i, hi => by
    have : i = a.length := by omega
    subst this
    rw [List.drop_length, List.append_nil, digs_len]
    exact .leave (dn_end (decide_eq_false (by rw [digs_len]; omega))) (fun h => by cases h)
  | j + 1, i, hi => by
    have ih := dn_loop a n ha hn la j (i + 1) (by omega)
    have hx := ha.getD i
    have hx1 := ha.getD (i + 1)
    have hlen : (digs i (val a / 2 ^ n) ++ a.drop i).length = a.length := by simp only [List.length_append, digs_len, List.length_drop]; omega
    have hd := down_dig ha 0 n i hn
    rw [Nat.zero_add, List.drop_zero] at hd
    have hs := set_mid [] (digs i (val a / 2 ^ n)) (a.drop i) [] i ((a.getD i 0 + 4294967296 * a.getD (i + 1) 0) / 2 ^ n % 4294967296) (digs_len _ _) (by rw [List.length_drop]; omega)
    have hg := getD_mid [] (digs i (val a / 2 ^ n)) (a.drop i) [] i (digs_len _ _) (by rw [List.length_drop]; omega)
    simp only [List.nil_append, List.append_nil, List.length_nil, Nat.zero_add] at hs hg
    rw [drop_getD] at hg
    rw [List.drop_drop, hd, ← digs_succ] at hs
    have hg1 : (digs i (val a / 2 ^ n) ++ a.drop i).getD (i + 1) 0 = a.getD (i + 1) 0 := by
      rw [getD_right _ _ _ (by rw [digs_len]; omega), digs_len, show i + 1 - i = 1 by omega]
      simp [List.getD_eq_getElem?_getD]
    have ht : Int.toNat ((i : Nat) : Int) = i := by omega
    have ht1 : Int.toNat (((i : Nat) : Int) + (1:Int)) = i + 1 := by omega
    have hset : ∀ y : Nat, y = a.getD (i + 1) 0 → wr .u32 ((wr .u64 ((wr .u64 (((y : Nat) : Int) * (4294967296:Int))) + (wr .u64 ((a.getD i 0 : Nat) : Int)))) / 2 ^ (min (Int.toNat ((n : Nat) : Int)) (IntKind.u64).bits)) = ((val a / 2 ^ n / 4294967296 ^ i % 4294967296 : Nat) : Int) := by
      intro y hy
      rw [← hd, ← hy, sh64 n (by omega)]
      have e : wr .u64 ((wr .u64 (((y : Nat) : Int) * (4294967296:Int))) + (wr .u64 ((a.getD i 0 : Nat) : Int))) = ((a.getD i 0 + 4294967296 * y : Nat) : Int) := by rw [wr64, wr64, wr64]; omega
      rw [e, ← Int.natCast_ediv, wr32]
      rfl
    by_cases hlast : i + 1 < a.length
    · refine .again (dn_in (r := digs (i + 1) (val a / 2 ^ n) ++ a.drop (i + 1)) (x := a.getD (i + 1) 0) (decide_eq_true (by omega)) (i64_ok (by omega) (by omega)) (decide_eq_true (by omega)) ⟨by omega, by omega⟩ ?_ ⟨by omega, by omega⟩ (by omega) ?_ (by omega)) ih
      · rw [ht1, hg1, wr64]; omega
      · rw [ht, hg, hset _ rfl]
        exact FEqset _ _ _ (by omega) hs
    · have h0 : a.getD (i + 1) 0 = 0 := by rw [List.getD_eq_getElem?_getD, List.getElem?_eq_none (by omega)]; rfl
      refine .again (dn_last (r := digs (i + 1) (val a / 2 ^ n) ++ a.drop (i + 1)) (decide_eq_true (by omega)) (i64_ok (by omega) (by omega)) (decide_eq_false (by omega)) ⟨by omega, by omega⟩ (by omega) ?_ (by omega)) ih
      have := hset 0 h0.symm
      rw [ht, hg]
      rw [show (0:Int) = ((0 : Nat) : Int) by rfl, this]
      exact FEqset _ _ _ (by omega) hs
theorem dn_trim (g : List Nat) (hg : g.length ≤ 2147483648) : ∀ k, k ≤ g.length → Loops E160 L160b (sDn2 (g.take k)) (.exit 2) (sDn2 (g.take (tz g k)))
  | 0, _ => .leave (dn_nil (decide_eq_false (by simp))) (fun h => by cases h)
  | k + 1, hk => by
    have hl : (g.take (k + 1)).length = k + 1 := by rw [List.length_take]; omega
    have hgd : (g.take (k + 1)).getD k 0 = g.getD k 0 := by
      rw [List.getD_eq_getElem?_getD, List.getElem?_take_of_lt (by omega), List.getD_eq_getElem?_getD]
    have ht : Int.toNat (((g.take (k + 1)).length : Int) - (1:Int)) = k := by omega
    by_cases h : g.getD k 0 = 0
    · have hz : tz g (k + 1) = tz g k := by simp only [tz, if_pos h]
      rw [hz]
      refine .again (dn_cut (r := g.take k) (decide_eq_true (by omega)) (i64_ok (by omega) (by omega)) ⟨by omega, by omega⟩ ?_ ⟨by omega, by omega, by omega⟩ ?_) (dn_trim g hg k (by omega))
      · rw [ht, hgd, h]; rfl
      · rw [ht, show Int.toNat (0:Int) = 0 by rfl]
        refine ⟨by rw [List.length_take]; omega, FEq.words fun j hj => ?_⟩
        show D.v (.int .u32 (((g.take (k + 1)).getD (0 + j) 0 : Nat) : Int)) = _
        refine word_eq ?_
        rw [Nat.zero_add, List.getD_eq_getElem?_getD, List.getElem?_take_of_lt (by omega), List.getD_eq_getElem?_getD, List.getElem?_take_of_lt (by omega)]
    · have hz : tz g (k + 1) = k + 1 := by simp only [tz, if_neg h]
      rw [hz]
      refine .leave (dn_stop (decide_eq_true (by omega)) (i64_ok (by omega) (by omega)) ⟨by omega, by omega⟩ ?_) (fun h => by cases h)
      rw [ht, hgd, beq_eq_false_iff_ne]; omega
theorem ref_down (a : List Nat) (n : Nat) (ha : Wd a) (hn : n < 32) (la : a.length ≤ 2147483648) : Den PP 160 [WO a, num .i64 (n : Int)] [.no, num .i64 (n : Int)] (WO (wd (val a / 2 ^ n))) := by
  refine D160 (gout := [(0, WO (wd (val a / 2 ^ n))), (4, .ref ⟨0, 0, none⟩)]) (e := .ret) ?_ (.inr rfl) (by kernel_rfl) (by kernel_rfl)
  have h1 := dn_loop a n ha hn la a.length 0 (by omega)
  rw [digs, List.drop_zero, List.nil_append] at h1
  have h2 := dn_trim (digs a.length (val a / 2 ^ n)) (by rw [digs_len]; omega) (digs a.length (val a / 2 ^ n)).length (Nat.le_refl _)
  rw [List.take_length] at h2
  have ht : (digs a.length (val a / 2 ^ n)).take (tz (digs a.length (val a / 2 ^ n)) (digs a.length (val a / 2 ^ n)).length) = wd (val a / 2 ^ n) := by
    show trimL _ = _
    rw [trim_digs_lt (Nat.lt_of_le_of_lt (Nat.div_le_self _ _) (val_lt ha))]
  rw [ht] at h2
  exact dn_all h1 h2
noncomputable def B107 : Code := codeOf Tryz.f107
noncomputable def E107 : Env := EV PP 24 []
theorem D107 {args outs : List S} {gout : List (Nat × S)} {e : Fin} {res : S} (hg : Goes E107 B107 (entry 0 args) e gout) (he : e = .normal ∨ e = .ret) (hle : Nat.ble args.length 24 = true)
    (hfin : finE (tabOf PP) gout Tryz.f107.results.toList args [] = some (outs, res)) : Den PP 107 args outs res :=
  den_tab (fn := Tryz.f107) (c := B107) (by kernel_rfl) (by kernel_rfl) (by kernel_rfl) (by kernel_rfl) hle hfin hg he
noncomputable def L107a : Code := sub [true, true, false, false, false] B107
def sOd (a : List Nat) (k : Nat) : List (Nat × S) := [(0, (WO a)), (4, (num .i64 ((k : Nat) : Int)))]
theorem od_go {a r : List Nat} {k : Nat}
    (h1 : idx a.length (0:Int))
    (h2 : ((a.getD (Int.toNat (0:Int)) 0 : Int) == (0:Int)) = true)
    (h3 : 0 ≤ (1:Int) ∧ (1:Int) ≤ (a.length : Int) ∧ (a.length : Int) ≤ (a.length : Int))
    (h4 : inR .i64 (((k : Nat) : Int) + (32:Int)))
    (h5 : ((Int.toNat (a.length : Int)) - (Int.toNat (1:Int))) = r.length ∧ FEq ((Int.toNat (a.length : Int)) - (Int.toNat (1:Int))) 1 (fun jq => (wf a) ((Int.toNat (1:Int)) + jq)) (wf r))
    (h6 : (((k : Nat) : Int) + (32:Int)) = ((k + 32 : Nat) : Int)) :
    Goes E107 L107a (sOd a k) .normal (sOd r (k + 32)) :=
  pathG [.r [] [0, 4, 9], .t true, .r [] [0, 4, 9], .r [] [0, 4, 9]] ((cc h1 (cc h2 (cc h3 (cc h4 (cc h5 (cc h6 nn))))))) (by kernel_rfl)
theorem od_end {a : List Nat} {k : Nat}
    (h1 : idx a.length (0:Int))
    (h2 : ((a.getD (Int.toNat (0:Int)) 0 : Int) == (0:Int)) = false) :
    Goes E107 L107a (sOd a k) (.exit 0) (sOd a k) :=
  pathG [.r [] [0, 4, 9], .t false] ((cc h1 (cc h2 (cc (fq a.length 1 (wf a)) (cc (er ((k : Nat) : Int)) nn))))) (by kernel_rfl)
theorem od_all {a r g : List Nat} {k n m x : Nat}
    (h1 : Loops E107 L107a (sOd a 0) (.exit 0) (sOd g k))
    (h2 : Den PP 159 [(u x)] [(u x)] (num .i64 ((n : Nat) : Int)))
    (h3 : Den PP 160 [(WO g), (num .i64 ((n : Nat) : Int))] [.no, (num .i64 ((n : Nat) : Int))] (WO r))
    (h4 : idx g.length (0:Int))
    (h5 : (g.getD (Int.toNat (0:Int)) 0 : Int) = ((x : Nat) : Int))
    (h6 : inR .i64 (((k : Nat) : Int) + ((n : Nat) : Int)))
    (h7 : (((k : Nat) : Int) + ((n : Nat) : Int)) = ((m : Nat) : Int)) :
    Goes E107 B107 [(0, (WO a))] .ret [(2, (WO r)), (3, (num .i64 ((m : Nat) : Int)))] :=
  pathG [.r [] [0, 2, 3], .r [] [0, 2, 3, 4], .l (sOd a 0) (.exit 0) (sOd g k), .r [.c [(u x)] [(u x)] (num .i64 ((n : Nat) : Int))] [0, 4, 5], .r [.c [(WO g), (num .i64 ((n : Nat) : Int))] [.no, (num .i64 ((n : Nat) : Int))] (WO r)] [0, 2, 3, 4, 5]] ((cc (fq a.length 1 (wf a)) (cc (er (0:Int)) (cc h1 (cc h4 (cc h5 (cc h2 (cc (fq g.length 1 (wf g)) (cc (er ((n : Nat) : Int)) (cc h3 (cc h6 (cc (fq r.length 1 (wf r)) (cc h7 nn))))))))))))) (by kernel_rfl)

/-- a number without the noughts at the end of its bits -/
def od (n : Nat) : Nat := n / 2 ^ ctz n
theorem od_mul (k m : Nat) (hm : m % 2 = 1) : od (2 ^ k * m) = m := by
  unfold od; rw [ctz_mul k m hm, Nat.mul_div_cancel_left _ (Nat.pow_pos (by omega))]
theorem od_loop : ∀ (a : List Nat) (k : Nat), Wd a → val a ≠ 0 → a.length ≤ 2147483648 → k + 32 * a.length ≤ 1099511627776 →
    ∃ g k', Loops E107 L107a (sOd a k) (.exit 0) (sOd g k') ∧ Wd g ∧ g.getD 0 0 ≠ 0 ∧ g.length ≤ a.length ∧ 0 < g.length ∧ k ≤ k' ∧ k' + 32 * g.length = k + 32 * a.length ∧ val a = 2 ^ (k' - k) * val g
  | [], k, ha, h0, _, _ => absurd rfl h0
  | x :: a, k, ha, h0, la, lk => by
    by_cases hx : x = 0
    · subst hx
      have hv : val (0 :: a) = 4294967296 * val a := by simp [val]
      have ha0 : val a ≠ 0 := by rw [hv] at h0; intro h; rw [h] at h0; simp at h0
      simp only [List.length_cons] at la lk
      obtain ⟨g, k', h1, h2, h3, h4, h5, h6, h7, h8⟩ := od_loop a (k + 32) ha.tail ha0 (by omega) (by omega)
      refine ⟨g, k', .again (od_go (r := a) ⟨by omega, by simp only [List.length_cons]; omega⟩ rfl ⟨by omega, by simp only [List.length_cons]; omega, by omega⟩ (i64_ok (by omega) (by omega)) ?_ (by omega)) h1, h2, h3, by simp only [List.length_cons]; omega, h5, by omega, by simp only [List.length_cons]; omega, ?_⟩
      · refine ⟨by simp, FEq.words fun j hj => ?_⟩
        show D.v (.int .u32 (((0 :: a).getD (Int.toNat (1:Int) + j) 0 : Nat) : Int)) = _
        refine word_eq ?_
        rw [show Int.toNat (1:Int) + j = j + 1 by omega, List.getD_cons_succ]
      · rw [hv, h8, ← Nat.mul_assoc, show (4294967296 : Nat) = 2 ^ 32 by rfl, ← Nat.pow_add]
        congr 2; omega
    · refine ⟨x :: a, k, .leave (od_end ⟨by omega, by simp only [List.length_cons]; omega⟩ ?_) (fun h => by cases h), ha, by simpa using hx, Nat.le_refl _, by simp, Nat.le_refl _, by omega, by simp⟩
      show (((x : Nat) : Int) == 0) = false
      rw [beq_eq_false_iff_ne]; omega
def woc (l : List Nat) : Bool × List C := (false, [.own 1 l.length (wf l)])
theorem ref_odd (a : List Nat) (ha : Wd a) (h0 : val a ≠ 0) (la : a.length ≤ 2147483648) : Den PP 107 [WO a] [.no] (.tup [woc (wd (od (val a))), ic (ctz (val a) : Int)]) := by
  obtain ⟨g, k', h1, h2, h3, h4, h5, h6, h7, h8⟩ := od_loop a 0 ha h0 la (by omega)
  have hx := h2.getD 0
  have hz := ref_zeros (g.getD 0 0) h3 hx
  obtain ⟨m, hm, he⟩ := ctz_split h3
  have hc : ctz (g.getD 0 0) < 32 := by
    rcases Nat.lt_or_ge (ctz (g.getD 0 0)) 32 with h | h
    · exact h
    · exfalso
      have : 2 ^ 32 ≤ 2 ^ ctz (g.getD 0 0) := Nat.pow_le_pow_right (by omega) h
      have h9 : 2 ^ ctz (g.getD 0 0) * 1 ≤ 2 ^ ctz (g.getD 0 0) * m := Nat.mul_le_mul_left _ (by omega)
      omega
  have hd := ref_down g (ctz (g.getD 0 0)) h2 hc (by omega)
  have hvg : val g = 2 ^ ctz (g.getD 0 0) * (m + 2 ^ (32 - ctz (g.getD 0 0)) * val (g.drop 1)) := by
    have := val_drop g 0
    rw [List.drop_zero, Nat.zero_add] at this
    rw [this]
    generalize ctz (g.getD 0 0) = c at *
    rw [Nat.mul_add, ← he, ← Nat.mul_assoc, ← B_split hc]
  have hodd : (m + 2 ^ (32 - ctz (g.getD 0 0)) * val (g.drop 1)) % 2 = 1 := by
    have : 2 ^ (32 - ctz (g.getD 0 0)) = 2 * 2 ^ (31 - ctz (g.getD 0 0)) := by rw [← Nat.pow_succ']; congr 1; omega
    rw [this, Nat.mul_assoc]; omega
  generalize m + 2 ^ (32 - ctz (g.getD 0 0)) * val (g.drop 1) = q at hvg hodd
  have hva : val a = 2 ^ (k' + ctz (g.getD 0 0)) * q := by rw [h8, Nat.sub_zero, hvg, ← Nat.mul_assoc, ← Nat.pow_add]
  have hva2 := od_mul (k' + ctz (g.getD 0 0)) q hodd
  have hva3 := ctz_mul (k' + ctz (g.getD 0 0)) q hodd
  rw [← hva] at hva2 hva3
  rw [hvg, Nat.mul_div_cancel_left _ (Nat.pow_pos (by omega))] at hd
  rw [hva2, hva3]
  refine D107 (gout := [(2, WO (wd q)), (3, num .i64 ((k' + ctz (g.getD 0 0) : Nat) : Int))]) (e := .ret) ?_ (.inr rfl) (by kernel_rfl) (by kernel_rfl)
  exact od_all h1 hz hd ⟨by omega, by omega⟩ rfl (i64_ok (by omega) (by omega)) (by omega)
end Go.X
