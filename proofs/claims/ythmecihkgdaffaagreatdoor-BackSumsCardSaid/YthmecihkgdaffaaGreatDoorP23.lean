/- Part 23 of the proof of BackSums: Paths and contracts. Paths and contracts. No conditions but those that each theorem names. -/
import Derived.Test.YthmecihkgdaffaaGreatDoorP22
namespace Go.X
open Go Go.Proofs
noncomputable def B64 : Code := codeOf Tryz.f64
noncomputable def E64 : Env := EV PP 12 []
theorem D64 {args outs : List S} {gout : List (Nat × S)} {e : Fin} {res : S} (hg : Goes E64 B64 (entry 0 args) e gout) (he : e = .normal ∨ e = .ret) (hle : Nat.ble args.length 12 = true)
    (hfin : finE (tabOf PP) gout Tryz.f64.results.toList args [] = some (outs, res)) : Den PP 64 args outs res :=
  den_tab (fn := Tryz.f64) (c := B64) (by kernel_rfl) (by kernel_rfl) (by kernel_rfl) (by kernel_rfl) hle hfin hg he
theorem r1_f {g : List Nat}
    (h1 : ((g.length : Int) == (1:Int)) = false) :
    Goes E64 B64 [(0, (W g))] .ret [(2, (bl false))] :=
  pathG [.r [] [0, 2], .r [.b false, .b false, .b false, .b false] [0, 2]] ((cc h1 (cc h1 (cc h1 (cc h1 (cc h1 (cc (er false) nn))))))) (by kernel_rfl)
theorem r1_t {g : List Nat} {t : Bool}
    (h1 : ((g.length : Int) == (1:Int)) = true)
    (h2 : idx g.length (0:Int))
    (h3 : (bif ((g.length : Int) == (1:Int)) then ((g.getD (Int.toNat (0:Int)) 0 : Int) == (1:Int)) else false) = t) :
    Goes E64 B64 [(0, (W g))] .ret [(2, (bl t))] :=
  pathG [.r [] [0, 2], .r [.b true, .b true, .b true, .b true] [0, 2]] ((cc h1 (cc h1 (cc h2 (cc h1 (cc h1 (cc tt (cc h3 nn)))))))) (by kernel_rfl)

def isOne (l : List Nat) : Bool := decide (l = [1])
theorem ref_one (l : List Nat) : Den PP 64 [W l] [W l] (bl (isOne l)) := by
  refine D64 (gout := [(2, bl (isOne l))]) (e := .ret) ?_ (.inr rfl) (by kernel_rfl) (by kernel_rfl)
  unfold isOne
  by_cases h : l.length = 1
  · obtain ⟨x, rfl⟩ : ∃ x, l = [x] := by
      match l, h with
      | [x], _ => exact ⟨x, rfl⟩
    refine r1_t rfl ⟨by omega, by simp⟩ ?_
    show (((x : Nat) : Int) == 1) = _
    by_cases h1 : x = 1
    · subst h1; rfl
    · rw [decide_eq_false (by simpa using h1), beq_eq_false_iff_ne]; omega
  · rw [decide_eq_false (fun e => h (by rw [e]; rfl))]
    refine r1_f ?_
    rw [beq_eq_false_iff_ne]; omega
theorem isOne_wd (n : Nat) : isOne (wd n) = decide (n = 1) := by
  unfold isOne
  by_cases h : n = 1
  · subst h; rw [wd1]; rfl
  · rw [decide_eq_false h, decide_eq_false]
    intro e
    have := val_wd n
    rw [e] at this
    exact h (by simpa [val] using this.symm)
noncomputable def B66 : Code := codeOf Tryz.f66
noncomputable def E66 : Env := EV PP 18 []
theorem D66 {args outs : List S} {gout : List (Nat × S)} {e : Fin} {res : S} (hg : Goes E66 B66 (entry 0 args) e gout) (he : e = .normal ∨ e = .ret) (hle : Nat.ble args.length 18 = true)
    (hfin : finE (tabOf PP) gout Tryz.f66.results.toList args [] = some (outs, res)) : Den PP 66 args outs res :=
  den_tab (fn := Tryz.f66) (c := B66) (by kernel_rfl) (by kernel_rfl) (by kernel_rfl) (by kernel_rfl) hle hfin hg he
theorem ov_one {a b x : List Nat}
    (h1 : Den PP 64 [(W b)] [(W b)] (bl true))
    (h2 : Den PP 63 [(W a)] [(W a)] (W x)) :
    Goes E66 B66 [(0, (W a)), (1, (W b))] .ret [(4, (W x))] :=
  pathG [.r [] [0, 1, 4], .r [.c [(W b)] [(W b)] (bl true)] [0, 1, 4, 8], .t true, .r [.c [(W a)] [(W a)] (W x)] [0, 1, 4, 8]] ((cc (fq b.length 1 (wf b)) (cc h1 (cc (er true) (cc (fq a.length 1 (wf a)) (cc h2 (cc (fq x.length 1 (wf x)) nn))))))) (by kernel_rfl)
theorem ov_all {a b x y : List Nat}
    (h1 : Den PP 64 [(W b)] [(W b)] (bl false))
    (h2 : Den PP 111 [(W a), (W b)] [(W a), (W b)] (.tup [wc x, wc y])) :
    Goes E66 B66 [(0, (W a)), (1, (W b))] .ret [(4, (W x))] :=
  pathG [.r [] [0, 1, 4], .r [.c [(W b)] [(W b)] (bl false)] [0, 1, 4, 8], .t false, .r [.c [(W a), (W b)] [(W a), (W b)] (.tup [wc x, wc y])] [0, 1, 4, 5, 8], .r [] [0, 1, 4, 5, 8]] ((cc (fq b.length 1 (wf b)) (cc h1 (cc (er false) (cc (fq a.length 1 (wf a)) (cc (fq b.length 1 (wf b)) (cc h2 (cc (fq x.length 1 (wf x)) nn)))))))) (by kernel_rfl)
theorem ref_over (a : List Nat) (g : Nat) (ha : Wd a) (la : a.length ≤ 1073741824) (lg : (wd g).length ≤ 1073741824) (h0 : g ≠ 0) :
    Den PP 66 [W a, W (wd g)] [W a, W (wd g)] (W (wd (val a / g))) := by
  refine D66 (gout := [(4, W (wd (val a / g)))]) (e := .ret) ?_ (by first | exact .inr rfl | exact .inl rfl) (by kernel_rfl) (by kernel_rfl)

  have ho := ref_one (wd g)
  rw [isOne_wd] at ho
  by_cases h : g = 1
  · rw [decide_eq_true h] at ho
    have hn := (ref_norm a (by omega)).plain
    rw [trimL_eq ha] at hn
    rw [h, Nat.div_one]
    rw [h] at ho
    exact ov_one ho hn
  · rw [decide_eq_false h] at ho
    have hd := ref_div a (wd g) ha (wd_Wd _) (by omega) (by omega) (by rw [val_wd]; exact h0)
    rw [val_wd] at hd
    exact ov_all ho hd
noncomputable def B110 : Code := codeOf Tryz.f110
noncomputable def E110 : Env := EV PP 17 []
theorem D110 {args outs : List S} {gout : List (Nat × S)} {e : Fin} {res : S} (hg : Goes E110 B110 (entry 0 args) e gout) (he : e = .normal ∨ e = .ret) (hle : Nat.ble args.length 17 = true)
    (hfin : finE (tabOf PP) gout Tryz.f110.results.toList args [] = some (outs, res)) : Den PP 110 args outs res :=
  den_tab (fn := Tryz.f110) (c := B110) (by kernel_rfl) (by kernel_rfl) (by kernel_rfl) (by kernel_rfl) hle hfin hg he
theorem dd_p {a g s r : List Nat} {t : Nat}
    (h1 : Den PP 71 [(W g), (W s)] [(W g), (W s)] (W r))
    (h2 : (32:Int) ≠ 0 ∧ (inR .i64 (Int.tdiv ((t : Nat) : Int) (32:Int))))
    (h3 : (Int.tdiv ((t : Nat) : Int) (32:Int)) = (Int.tdiv ((t : Nat) : Int) (32:Int)) ∧ 0 ≤ (Int.tdiv ((t : Nat) : Int) (32:Int)) ∧ (Int.tdiv ((t : Nat) : Int) (32:Int)) ≤ 140737488355328 ∧ (Int.tdiv ((t : Nat) : Int) (32:Int)) * 4 ≤ 140737488355328)
    (h4 : room ((Int.toNat (Int.tdiv ((t : Nat) : Int) (32:Int))) + a.length) 4)
    (h5 : ((Int.toNat (Int.tdiv ((t : Nat) : Int) (32:Int))) + a.length) = g.length ∧ FEq ((Int.toNat (Int.tdiv ((t : Nat) : Int) (32:Int))) + a.length) 1 (appF (Int.toNat (Int.tdiv ((t : Nat) : Int) (32:Int))) (fun _ i => cellD ((([(.d (.v (.int .u32 (0:Int))))]).getD i nilC).plain)) (wf a)) (wf g))
    (h6 : (32:Int) ≠ 0)
    (h7 : 0 ≤ (Int.tmod ((t : Nat) : Int) (32:Int)) ∧ True)
    (h8 : 1 = s.length ∧ FEq 1 1 (rowF 1 [(.d (.v (.int .u32 (wr .u32 ((1:Int) * 2 ^ (min (Int.toNat (Int.tmod ((t : Nat) : Int) (32:Int))) (IntKind.u32).bits))))))]) (wf s)) :
    Goes E110 B110 [(0, (W a)), (1, (num .i64 ((t : Nat) : Int)))] .ret [(4, (W r))] :=
  pathG [.r [] [0, 1, 4], .r [] [0, 1, 4, 5], .u [(0, (W a)), (1, (num .i64 ((t : Nat) : Int))), (4, (.one false [(.app 0 0 (fun _ _ => .v undef))])), (5, (WO g))], .f 5, .r [.c [(W g), (W s)] [(W g), (W s)] (W r)] [0, 1, 4, 5]] ((cc h2 (cc h3 (cc h4 (cc (fq a.length 1 (wf a)) (cc (er ((t : Nat) : Int)) (cc (er 0) (cc h5 (cc h6 (cc h7 (cc (fq g.length 1 (wf g)) (cc h8 (cc h1 (cc (fq r.length 1 (wf r)) nn)))))))))))))) (by kernel_rfl)

theorem app_words (l m : List Nat) (n : Nat) (hn : n = l.length) {f : Nat → Nat → D} (hf : ∀ j, j < n → f j 0 = .v (.int .u32 (l.getD j 0 : Int))) : (n + m.length) = (l ++ m).length ∧ FEq (n + m.length) 1 (appF n f (wf m)) (wf (l ++ m)) := by
  refine ⟨by simp; omega, FEq.words fun j hj => ?_⟩
  by_cases h : j < n
  · have hb : Nat.blt j n = true := by simpa [Nat.blt_eq] using h
    simp only [appF, hb, cond_true]
    rw [hf j h, getD_left _ _ _ (by omega)]
  · have hb : Nat.blt j n = false := by rw [Bool.eq_false_iff]; simpa [Nat.blt_eq] using h
    simp only [appF, hb, cond_false, wf]
    rw [getD_right _ _ _ (by omega), hn]
theorem ref_dbl (a : List Nat) (t : Nat) (ha : Wd a) (la : a.length ≤ 536870912) (ht : t ≤ 17179869184) :
    Den PP 110 [W a, num .i64 (t : Int)] [W a, num .i64 (t : Int)] (W (wd (2 ^ t * val a))) := by
  refine D110 (gout := [(4, W (wd (2 ^ t * val a)))]) (e := .ret) ?_ (by first | exact .inr rfl | exact .inl rfl) (by kernel_rfl) (by kernel_rfl)

  have hq : Int.tdiv ((t : Nat) : Int) (32:Int) = ((t / 32 : Nat) : Int) := rfl
  have hr : Int.tmod ((t : Nat) : Int) (32:Int) = ((t % 32 : Nat) : Int) := rfl
  have hp : 2 ^ (t % 32) < 4294967296 := Nat.pow_lt_pow_right (a := 2) (by omega) (by omega : t % 32 < 32)
  have hwz : Wd (List.replicate (t / 32) 0 ++ a) := (Wd.zeros _).append ha
  have hv : val (List.replicate (t / 32) 0 ++ a) * val [2 ^ (t % 32)] = 2 ^ t * val a := by
    rw [val_append, val_zeros, List.length_replicate, Nat.zero_add]
    simp only [val, Nat.mul_zero, Nat.add_zero]
    rw [show (4294967296 : Nat) = 2 ^ 32 by rfl, ← Nat.pow_mul, Nat.mul_right_comm, ← Nat.pow_add, show 32 * (t / 32) + t % 32 = t by omega]
  have hm := (ref_mul (List.replicate (t / 32) 0 ++ a) [2 ^ (t % 32)] hwz (fun x hx => by simp at hx; omega) (by simp; omega) (by simp)).plain
  rw [hv] at hm
  have hsh : wr .u32 ((1:Int) * 2 ^ (min (Int.toNat ((t % 32 : Nat) : Int)) (IntKind.u32).bits)) = ((2 ^ (t % 32) : Nat) : Int) := by
    rw [sh32 _ (by omega), Int.one_mul, wr32]
    generalize 2 ^ (t % 32) = w at *
    omega
  have hf := fresh_zeros (k := Int.tdiv ((t : Nat) : Int) (32:Int)) (n := t / 32) hq
  refine dd_p (t := t) hm ⟨by omega, by rw [hq]; exact i64_ok (by omega) (by omega)⟩ ⟨rfl, by rw [hq]; omega, by rw [hq]; omega, by rw [hq]; omega⟩ ?_ ?_ (by omega) ⟨by rw [hr]; omega, trivial⟩ ?_
  · rw [hq]
    show room (t / 32 + a.length) 4
    exact ⟨by omega, by omega⟩
  · rw [hq]
    refine app_words (List.replicate (t / 32) 0) a _ (by rw [List.length_replicate]; omega) fun j hj => ?_
    have : j < t / 32 := by omega
    simp [List.getD_eq_getElem?_getD, this]; rfl
  · rw [hr, hsh]
    refine ⟨rfl, FEq.words fun j hj => ?_⟩
    have : j = 0 := by omega
    subst this
    rfl
noncomputable def B65 : Code := codeOf Tryz.f65
noncomputable def E65 : Env := EV PP 56 []
theorem D65 {args outs : List S} {gout : List (Nat × S)} {e : Fin} {res : S} (hg : Goes E65 B65 (entry 0 args) e gout) (he : e = .normal ∨ e = .ret) (hle : Nat.ble args.length 56 = true)
    (hfin : finE (tabOf PP) gout Tryz.f65.results.toList args [] = some (outs, res)) : Den PP 65 args outs res :=
  den_tab (fn := Tryz.f65) (c := B65) (by kernel_rfl) (by kernel_rfl) (by kernel_rfl) (by kernel_rfl) hle hfin hg he
noncomputable def L65a : Code := sub [true, true, true, true, true, true, true, false, false, false] B65
def sGd (x y : List Nat) (m n : Nat) : List (Nat × S) := [(5, (WO x)), (6, (WO y)), (7, (num .i64 ((m : Nat) : Int))), (8, (num .i64 ((n : Nat) : Int)))]
theorem gd_eq {x y : List Nat} {m n : Nat} {c : Int}
    (h1 : Den PP 108 [(WO x), (WO y)] [(WO x), (WO y)] (num .i64 c))
    (h2 : (c == (0:Int)) = true) :
    Goes E65 L65a (sGd x y m n) (.exit 0) (sGd x y m n) :=
  pathG [.r [.c [(WO x), (WO y)] [(WO x), (WO y)] (num .i64 c)] [5, 6, 7, 8, 9], .r [] [5, 6, 7, 8, 9, 37], .t true] ((cc (fq x.length 1 (wf x)) (cc (fq y.length 1 (wf y)) (cc h1 (cc h2 (cc (fq x.length 1 (wf x)) (cc (fq y.length 1 (wf y)) (cc (er ((m : Nat) : Int)) (cc (er ((n : Nat) : Int)) nn))))))))) (by kernel_rfl)
theorem gd_gt {x y z r : List Nat} {m n k : Nat} {c : Int}
    (h1 : Den PP 108 [(WO x), (WO y)] [(WO x), (WO y)] (num .i64 c))
    (h2 : Den PP 109 [(WO x), (WO y)] [(WO z), (WO y)] (.tup []))
    (h3 : Den PP 107 [(WO z)] [.no] (.tup [woc r, ic (k : Int)]))
    (h4 : (c == (0:Int)) = false)
    (h5 : (decide (c < (0:Int))) = false) :
    Goes E65 L65a (sGd x y m n) .normal (sGd r y m n) :=
  pathG [.r [.c [(WO x), (WO y)] [(WO x), (WO y)] (num .i64 c)] [5, 6, 7, 8, 9], .r [] [5, 6, 7, 8, 9, 37], .t false, .r [] [5, 6, 7, 8, 9, 37, 39], .t false, .r [.c [(WO x), (WO y)] [(WO z), (WO y)] (.tup [])] [5, 6, 7, 8, 9, 37, 39], .r [.c [(WO z)] [.no] (.tup [woc r, ic (k : Int)])] [5, 6, 7, 8, 9, 37, 39]] ((cc (fq x.length 1 (wf x)) (cc (fq y.length 1 (wf y)) (cc h1 (cc h4 (cc h5 (cc (fq x.length 1 (wf x)) (cc (fq y.length 1 (wf y)) (cc h2 (cc (fq z.length 1 (wf z)) (cc h3 (cc (fq r.length 1 (wf r)) (cc (fq y.length 1 (wf y)) (cc (er ((m : Nat) : Int)) (cc (er ((n : Nat) : Int)) nn))))))))))))))) (by kernel_rfl)
theorem gd_lt {x y z r : List Nat} {m n k : Nat} {c : Int}
    (h1 : Den PP 108 [(WO x), (WO y)] [(WO x), (WO y)] (num .i64 c))
    (h2 : Den PP 109 [(WO y), (WO x)] [(WO z), (WO x)] (.tup []))
    (h3 : Den PP 107 [(WO z)] [.no] (.tup [woc r, ic (k : Int)]))
    (h4 : (c == (0:Int)) = false)
    (h5 : (decide (c < (0:Int))) = true) :
    Goes E65 L65a (sGd x y m n) .normal (sGd r x m n) :=
  pathG [.r [.c [(WO x), (WO y)] [(WO x), (WO y)] (num .i64 c)] [5, 6, 7, 8, 9], .r [] [5, 6, 7, 8, 9, 37], .t false, .r [] [5, 6, 7, 8, 9, 37, 39], .t true, .r [.m true] [5, 6, 7, 8, 9, 10, 37, 39], .r [.m true] [5, 6, 7, 8, 9, 10, 37, 39], .r [.m true] [5, 6, 7, 8, 9, 10, 37, 39], .r [.c [(WO y), (WO x)] [(WO z), (WO x)] (.tup [])] [5, 6, 7, 8, 9, 37, 39], .r [.c [(WO z)] [.no] (.tup [woc r, ic (k : Int)])] [5, 6, 7, 8, 9, 37, 39]] ((cc (fq x.length 1 (wf x)) (cc (fq y.length 1 (wf y)) (cc h1 (cc h4 (cc h5 (cc (fq y.length 1 (wf y)) (cc (fq x.length 1 (wf x)) (cc h2 (cc (fq z.length 1 (wf z)) (cc h3 (cc (fq r.length 1 (wf r)) (cc (fq x.length 1 (wf x)) (cc (er ((m : Nat) : Int)) (cc (er ((n : Nat) : Int)) nn))))))))))))))) (by kernel_rfl)
theorem gd_a0 {a b x y : List Nat}  
    (h1 : Den PP 63 [(W a)] [(W a)] (WO x))
    (h2 : Den PP 63 [(W b)] [(W b)] (WO y))
    (h3 : ((x.length : Int) == (0:Int)) = true) :
    Goes E65 B65 [(0, (W a)), (1, (W b))] .ret [(4, (.ref ⟨6, 0, none⟩)), (6, (WO y))] :=
  pathG [.r [] [0, 1, 4], .r [.c [(W a)] [(W a)] (WO x)] [0, 1, 4, 5], .r [.c [(W b)] [(W b)] (WO y)] [0, 1, 4, 5, 6], .r [] [0, 1, 4, 5, 6, 17], .t true, .r [] [0, 1, 4, 5, 6, 17]] ((cc (fq a.length 1 (wf a)) (cc h1 (cc (fq b.length 1 (wf b)) (cc h2 (cc h3 (cc (fq y.length 1 (wf y)) nn))))))) (by kernel_rfl)
theorem gd_b0 {a b x y : List Nat}  
    (h1 : Den PP 63 [(W a)] [(W a)] (WO x))
    (h2 : Den PP 63 [(W b)] [(W b)] (WO y))
    (h3 : ((x.length : Int) == (0:Int)) = false)
    (h4 : ((y.length : Int) == (0:Int)) = true) :
    Goes E65 B65 [(0, (W a)), (1, (W b))] .ret [(4, (.ref ⟨5, 0, none⟩)), (5, (WO x))] :=
  pathG [.r [] [0, 1, 4], .r [.c [(W a)] [(W a)] (WO x)] [0, 1, 4, 5], .r [.c [(W b)] [(W b)] (WO y)] [0, 1, 4, 5, 6], .r [] [0, 1, 4, 5, 6, 17], .t false, .r [] [0, 1, 4, 5, 6, 17, 21], .t true, .r [] [0, 1, 4, 5, 6, 17, 21]] ((cc (fq a.length 1 (wf a)) (cc h1 (cc (fq b.length 1 (wf b)) (cc h2 (cc h3 (cc h4 (cc (fq x.length 1 (wf x)) nn)))))))) (by kernel_rfl)
theorem gd_all {a b x y z r g w v : List Nat} {m n k : Nat} 
    (h1 : Den PP 63 [(W a)] [(W a)] (WO x))
    (h2 : Den PP 63 [(W b)] [(W b)] (WO y))
    (h3 : Den PP 107 [(WO x)] [.no] (.tup [woc z, ic (m : Int)]))
    (h4 : Den PP 107 [(WO y)] [.no] (.tup [woc r, ic (n : Int)]))
    (h5 : Loops E65 L65a (sGd z r m n) (.exit 0) (sGd w v m n))
    (h6 : Den PP 110 [(W w), (num .i64 ((k : Nat) : Int))] [(W w), (num .i64 ((k : Nat) : Int))] (W g))
    (h7 : ((x.length : Int) == (0:Int)) = false)
    (h8 : ((y.length : Int) == (0:Int)) = false)
    (h9 : (if ((n : Nat) : Int) < ((m : Nat) : Int) then ((n : Nat) : Int) else ((m : Nat) : Int)) = ((k : Nat) : Int)) :
    Goes E65 B65 [(0, (W a)), (1, (W b))] .ret [(4, (W g))] :=
  pathG [.r [] [0, 1, 4], .r [.c [(W a)] [(W a)] (WO x)] [0, 1, 4, 5], .r [.c [(W b)] [(W b)] (WO y)] [0, 1, 4, 5, 6], .r [] [0, 1, 4, 5, 6, 17], .t false, .r [] [0, 1, 4, 5, 6, 17, 21], .t false, .r [.c [(WO x)] [.no] (.tup [woc z, ic (m : Int)])] [0, 1, 4, 5, 6, 7, 17, 21], .r [.c [(WO y)] [.no] (.tup [woc r, ic (n : Int)])] [0, 1, 4, 5, 6, 7, 8, 17, 21], .l (sGd z r m n) (.exit 0) (sGd w v m n), .f 5, .r [.c [(W w), (num .i64 ((k : Nat) : Int))] [(W w), (num .i64 ((k : Nat) : Int))] (W g)] [4, 5, 6, 7, 8]] ((cc (fq a.length 1 (wf a)) (cc h1 (cc (fq b.length 1 (wf b)) (cc h2 (cc h7 (cc h8 (cc (fq x.length 1 (wf x)) (cc h3 (cc (fq y.length 1 (wf y)) (cc h4 (cc (fq z.length 1 (wf z)) (cc (fq r.length 1 (wf r)) (cc (er ((m : Nat) : Int)) (cc (er ((n : Nat) : Int)) (cc h5 (cc (fq w.length 1 (wf w)) (cc h9 (cc h6 (cc (fq g.length 1 (wf g)) nn)))))))))))))))))))) (by kernel_rfl)

theorem odd_cop {Y : Nat} (k : Nat) (h : Y % 2 = 1) : Nat.Coprime (2 ^ k) Y := by
  refine Nat.Coprime.pow_left k ?_
  show Nat.gcd 2 Y = 1
  rw [Nat.gcd_rec, h]; rfl
theorem gcd_od {d Y : Nat} (h0 : d ≠ 0) (hY : Y % 2 = 1) : Nat.gcd (od d) Y = Nat.gcd d Y := by
  obtain ⟨m, hm, he⟩ := ctz_split h0
  have e1 : od d = m := by
    have := od_mul (ctz d) m hm
    rw [← he] at this; exact this
  rw [e1]
  have e2 : Nat.gcd (2 ^ ctz d * m) Y = Nat.gcd m Y := Nat.Coprime.gcd_mul_left_cancel m (odd_cop (ctz d) hY)
  rw [← he] at e2
  exact e2.symm
theorem od_odd {d : Nat} (h0 : d ≠ 0) : od d % 2 = 1 := by
  obtain ⟨m, hm, he⟩ := ctz_split h0
  have := od_mul (ctz d) m hm
  rw [← he] at this
  rw [this]; exact hm
theorem od_le (d : Nat) : od d ≤ d := Nat.div_le_self _ _
theorem gcd_two {a b : Nat} (ha : a ≠ 0) (hb : b ≠ 0) : 2 ^ min (ctz a) (ctz b) * Nat.gcd (od a) (od b) = Nat.gcd a b := by
  obtain ⟨x, hx, ea⟩ := ctz_split ha
  obtain ⟨y, hy, eb⟩ := ctz_split hb
  have o1 : od a = x := by have := od_mul (ctz a) x hx; rw [← ea] at this; exact this
  have o2 : od b = y := by have := od_mul (ctz b) y hy; rw [← eb] at this; exact this
  rw [o1, o2]
  generalize ctz a = m at *
  generalize ctz b = n at *
  subst ea; subst eb
  rcases Nat.le_total m n with h | h
  · rw [Nat.min_eq_left h]
    have : 2 ^ n * y = 2 ^ m * (2 ^ (n - m) * y) := by rw [← Nat.mul_assoc, ← Nat.pow_add, show m + (n - m) = n by omega]
    rw [this, Nat.gcd_mul_left]
    congr 1
    rw [Nat.gcd_comm x (2 ^ (n - m) * y), Nat.Coprime.gcd_mul_left_cancel y (odd_cop (n - m) hx), Nat.gcd_comm]
  · rw [Nat.min_eq_right h]
    have : 2 ^ m * x = 2 ^ n * (2 ^ (m - n) * x) := by rw [← Nat.mul_assoc, ← Nat.pow_add, show n + (m - n) = m by omega]
    rw [this, Nat.gcd_mul_left]
    congr 1
    rw [Nat.Coprime.gcd_mul_left_cancel x (odd_cop (m - n) hy)]
theorem wd_digs (n : Nat) : wd n = digs (wd n).length n := by
  have := digs_val (wd_Wd n)
  rw [val_wd] at this; exact this.symm
theorem less_wd (X Y : Nat) (h : Y ≤ X) (hX : (wd X).length ≤ 2147483648) : Den PP 109 [WO (wd X), WO (wd Y)] [WO (digs (wd X).length (X - Y)), WO (wd Y)] (.tup []) := by
  have := ref_less (wd X).length X (wd Y) (wd_Wd _) hX (wd_len_lt X) (wd_mono h) (by rw [val_wd]; exact h)
  rw [val_wd, ← wd_digs] at this
  exact this.lent2
theorem cmp_wd (X Y : Nat) (hX : (wd X).length ≤ 4294967296) (hY : (wd Y).length ≤ 4294967296) : Den PP 108 [WO (wd X), WO (wd Y)] [WO (wd X), WO (wd Y)] (num .i64 (cmp3 X Y)) := by
  have := ref_cmp (wd X) (wd Y) (wd_Wd _) (wd_Wd _) hX hY
  rw [val_wd, val_wd] at this
  exact Den.lent (args := [W (wd X), W (wd Y)]) (.own (.own .nil)) rfl this
theorem odd_digs (k d : Nat) (h0 : d ≠ 0) (hd : d < 4294967296 ^ k) (hk : k ≤ 2147483648) : Den PP 107 [WO (digs k d)] [.no] (.tup [woc (wd (od d)), ic (ctz d : Int)]) := by
  have := ref_odd (digs k d) (digs_Wd _ _) (by rw [val_digs_lt hd]; exact h0) (by rw [digs_len]; exact hk)
  rw [val_digs_lt hd] at this
  exact this
theorem gd_loop (m n : Nat) (K : Nat) (hK : K ≤ 2147483648) : ∀ (N X Y : Nat), X + Y = N → X % 2 = 1 → Y % 2 = 1 → (wd X).length ≤ K → (wd Y).length ≤ K →
    ∃ v, Loops E65 L65a (sGd (wd X) (wd Y) m n) (.exit 0) (sGd (wd (Nat.gcd X Y)) v m n) := by
  intro N
  induction N using Nat.strongRecOn with
  | _ N ih =>
    intro X Y hN hX hY lX lY
    have hc := cmp_wd X Y (by omega) (by omega)
    rcases Nat.lt_trichotomy X Y with h | h | h
    · have hls := less_wd Y X (by omega) (by omega)
      have hlt := wd_len_lt Y
      have hod := odd_digs (wd Y).length (Y - X) (by omega) (by omega) (by omega)
      have o1 := od_le (Y - X)
      obtain ⟨v, hv⟩ := ih (od (Y - X) + X) (by omega) (od (Y - X)) X rfl (od_odd (by omega)) hX (Nat.le_trans (wd_mono (by omega : od (Y - X) ≤ Y)) lY) lX
      have hg : Nat.gcd (od (Y - X)) X = Nat.gcd X Y := by
        rw [gcd_od (by omega) hX, Nat.gcd_sub_self_left (by omega), Nat.gcd_comm]
      rw [hg] at hv
      refine ⟨v, .again (gd_lt hc hls hod ?_ ?_) hv⟩
      · unfold cmp3; rw [if_pos h]; rfl
      · unfold cmp3; rw [if_pos h]; rfl
    · subst h
      refine ⟨wd X, ?_⟩
      rw [Nat.gcd_self]
      refine .leave (gd_eq hc ?_) (fun h => by cases h)
      unfold cmp3; rw [if_neg (by omega), if_neg (by omega)]; rfl
    · have hls := less_wd X Y (by omega) (by omega)
      have hlt := wd_len_lt X
      have hod := odd_digs (wd X).length (X - Y) (by omega) (by omega) (by omega)
      have o1 := od_le (X - Y)
      obtain ⟨v, hv⟩ := ih (od (X - Y) + Y) (by omega) (od (X - Y)) Y rfl (od_odd (by omega)) hY (Nat.le_trans (wd_mono (by omega : od (X - Y) ≤ X)) lX) lY
      have hg : Nat.gcd (od (X - Y)) Y = Nat.gcd X Y := by
        rw [gcd_od (by omega) hY, Nat.gcd_sub_self_left (by omega)]
      rw [hg] at hv
      refine ⟨v, .again (gd_gt hc hls hod ?_ ?_) hv⟩
      · unfold cmp3; rw [if_neg (by omega), if_pos h]; rfl
      · unfold cmp3; rw [if_neg (by omega), if_pos h]; rfl
theorem ctz_le_len (n : Nat) (h0 : n ≠ 0) : ctz n ≤ 32 * (wd n).length := by
  have h1 := wd_len_lt n
  obtain ⟨m, hm, he⟩ := ctz_split h0
  have h2 : 2 ^ ctz n * 1 ≤ 2 ^ ctz n * m := Nat.mul_le_mul_left _ (by omega)
  rw [← he] at h2
  have h3 : 2 ^ ctz n < 2 ^ (32 * (wd n).length) := by rw [Nat.pow_mul]; exact Nat.lt_of_le_of_lt (by omega) h1
  have := (Nat.pow_lt_pow_iff_right (by omega : 1 < 2)).1 h3
  omega
theorem ref_gcd (a b : List Nat) (ha : Wd a) (hb : Wd b) (la : a.length ≤ 268435456) (lb : b.length ≤ 268435456) : Den PP 65 [W a, W b] [W a, W b] (W (wd (Nat.gcd (val a) (val b)))) := by
  have hna := ref_norm a (by omega)
  have hnb := ref_norm b (by omega)
  rw [trimL_eq ha] at hna
  rw [trimL_eq hb] at hnb
  have la' := wd_len_of ha
  have lb' := wd_len_of hb
  by_cases a0 : val a = 0
  · rw [a0, Nat.gcd_zero_left]
    rw [a0, wd_zero] at hna
    exact (D65 (gout := [(4, .ref ⟨6, 0, none⟩), (6, WO (wd (val b)))]) (e := .ret) (gd_a0 hna hnb rfl) (.inr rfl) (by kernel_rfl) (by kernel_rfl) : Den PP 65 [W a, W b] [W a, W b] (WO (wd (val b)))).plain
  have pa := wd_pos_len a0
  have na : (((wd (val a)).length : Int) == (0:Int)) = false := by rw [beq_eq_false_iff_ne]; omega
  by_cases b0 : val b = 0
  · rw [b0, Nat.gcd_zero_right]
    rw [b0, wd_zero] at hnb
    exact (D65 (gout := [(4, .ref ⟨5, 0, none⟩), (5, WO (wd (val a)))]) (e := .ret) (gd_b0 hna hnb na rfl) (.inr rfl) (by kernel_rfl) (by kernel_rfl) : Den PP 65 [W a, W b] [W a, W b] (WO (wd (val a)))).plain
  have pb := wd_pos_len b0
  have nb' : (((wd (val b)).length : Int) == (0:Int)) = false := by rw [beq_eq_false_iff_ne]; omega
  have o1 := odd_digs (wd (val a)).length (val a) a0 (wd_len_lt _) (by omega)
  have o2 := odd_digs (wd (val b)).length (val b) b0 (wd_len_lt _) (by omega)
  rw [← wd_digs] at o1 o2
  have m1 := wd_mono (od_le (val a))
  have m2 := wd_mono (od_le (val b))
  obtain ⟨v, hv⟩ := gd_loop (ctz (val a)) (ctz (val b)) 268435456 (by omega) _ (od (val a)) (od (val b)) rfl (od_odd a0) (od_odd b0) (by omega) (by omega)
  have c1 := ctz_le_len (val a) a0
  have c2 := ctz_le_len (val b) b0
  have hgl : Nat.gcd (od (val a)) (od (val b)) ≤ od (val a) := Nat.gcd_le_left _ (by have := od_odd a0; omega)
  have hgl := wd_mono hgl
  have hd := ref_dbl (wd (Nat.gcd (od (val a)) (od (val b)))) (min (ctz (val a)) (ctz (val b))) (wd_Wd _) (by omega) (by omega)
  rw [val_wd, gcd_two a0 b0] at hd
  refine D65 (gout := [(4, W (wd (Nat.gcd (val a) (val b))))]) (e := .ret) ?_ (.inr rfl) (by kernel_rfl) (by kernel_rfl)
  refine gd_all hna hnb o1 o2 hv hd na nb' ?_
  split <;> omega
end Go.X
namespace Go.X
open Go Go.Proofs
noncomputable def B118 : Code := codeOf Tryz.f118
noncomputable def E118 : Env := EV PP 16 []
theorem D118 {args outs : List S} {gout : List (Nat × S)} {e : Fin} {res : S} (hg : Goes E118 B118 (entry 0 args) e gout) (he : e = .normal ∨ e = .ret) (hle : Nat.ble args.length 16 = true)
    (hfin : finE (tabOf PP) gout Tryz.f118.results.toList args [] = some (outs, res)) : Den PP 118 args outs res :=
  den_tab (fn := Tryz.f118) (c := B118) (by kernel_rfl) (by kernel_rfl) (by kernel_rfl) (by kernel_rfl) hle hfin hg he
theorem r8n_t {a t : Bool} {n r : List Nat}   
    (h1 : Den PP 63 [(W n)] [(W n)] (W r))
    (h2 : a = true)
    (h3 : (bif a then (decide ((r.length : Int) > (0:Int))) else false) = t) :
    Goes E118 B118 [(0, (ZS a n))] .ret [(2, (BX 153 (ZS t r)))] :=
  pathG [.r [] [0, 1, 2], .r [.c [(W n)] [(W n)] (W r)] [0, 1, 2, 3], .r [.b true, .b true, .b true] [0, 1, 2, 3]] ((cc (fq n.length 1 (wf n)) (cc h1 (cc h2 (cc h2 (cc h2 (cc tt (cc h3 (cc (fq r.length 1 (wf r)) nn))))))))) (by kernel_rfl)
theorem r8n_f {a : Bool} {n r : List Nat}   
    (h1 : Den PP 63 [(W n)] [(W n)] (W r))
    (h2 : a = false) :
    Goes E118 B118 [(0, (ZS a n))] .ret [(2, (BX 153 (ZS false r)))] :=
  pathG [.r [] [0, 1, 2], .r [.c [(W n)] [(W n)] (W r)] [0, 1, 2, 3], .r [.b false, .b false, .b false] [0, 1, 2, 3]] ((cc (fq n.length 1 (wf n)) (cc h1 (cc h2 (cc h2 (cc h2 (cc h2 (cc (er false) (cc (fq r.length 1 (wf r)) nn))))))))) (by kernel_rfl)

theorem zi_sg (b : Bool) (l : List Nat) : ZI (zv b l) = ZS (b && decide (0 < val l)) (wd (val l)) := by
  unfold ZI
  rw [zv_abs]
  congr 1
  unfold zv
  cases b <;> simp <;> omega
theorem ref8_norm (b : Bool) (l : List Nat) (hw : Wd l) (hl : l.length ≤ 4294967296) :
    Den PP 118 [ZS b l] [ZS b l] (ZI (zv b l)) := by
  refine D118 (gout := [(2, BX 153 (ZI (zv b l)))]) (e := .ret) ?_ (by first | exact .inr rfl | exact .inl rfl) (by kernel_rfl) (by kernel_rfl)

  have hn := (ref_norm l hl).plain
  rw [trimL_eq hw] at hn
  rw [zi_sg]
  cases b with
  | true =>
    refine r8n_t hn rfl ?_
    rw [Bool.true_and]
    show decide (((wd (val l)).length : Int) > 0) = _
    by_cases h : val l = 0
    · rw [h, wd_zero]; rfl
    · have := wd_pos_len h
      rw [decide_eq_true (by omega : 0 < val l)]; exact decide_eq_true (by omega)
  | false => exact r8n_f hn rfl
noncomputable def B72 : Code := codeOf Tryz.f72
noncomputable def E72 : Env := EV PP 43 []
theorem D72 {args outs : List S} {gout : List (Nat × S)} {e : Fin} {res : S} (hg : Goes E72 B72 (entry 0 args) e gout) (he : e = .normal ∨ e = .ret) (hle : Nat.ble args.length 43 = true)
    (hfin : finE (tabOf PP) gout Tryz.f72.results.toList args [] = some (outs, res)) : Den PP 72 args outs res :=
  den_tab (fn := Tryz.f72) (c := B72) (by kernel_rfl) (by kernel_rfl) (by kernel_rfl) (by kernel_rfl) hle hfin hg he
theorem r8a_eq {a b t : Bool} {n m g r : List Nat}   
    (h1 : Den PP 69 [(W n), (W m)] [(W n), (W m)] (W r))
    (h2 : Den PP 118 [(ZS a r)] [(ZS a r)] (ZS t g))
    (h3 : (a == b) = true) :
    Goes E72 B72 [(0, (ZS a n)), (1, (ZS b m))] .ret [(4, (BX 153 (ZS t g)))] :=
  pathG [.r [] [0, 1, 2, 3, 4], .r [] [0, 1, 2, 3, 4, 9], .t true, .r [.c [(W n), (W m)] [(W n), (W m)] (W r), .c [(ZS a r)] [(ZS a r)] (ZS t g)] [0, 1, 2, 3, 4, 9]] ((cc h3 (cc (fq n.length 1 (wf n)) (cc (fq m.length 1 (wf m)) (cc h1 (cc (er a) (cc (fq r.length 1 (wf r)) (cc h2 (cc (er t) (cc (fq g.length 1 (wf g)) nn)))))))))) (by kernel_rfl)
theorem r8a_lt {a b t : Bool} {n m g r : List Nat}  {q : Int} 
    (h1 : Den PP 108 [(W n), (W m)] [(W n), (W m)] (num .i64 q))
    (h2 : Den PP 119 [(W m), (W n)] [(W m), (W n)] (W r))
    (h3 : Den PP 118 [(ZS b r)] [(ZS b r)] (ZS t g))
    (h4 : (a == b) = false)
    (h5 : (decide (q < (0:Int))) = true) :
    Goes E72 B72 [(0, (ZS a n)), (1, (ZS b m))] .ret [(4, (BX 153 (ZS t g)))] :=
  pathG [.r [] [0, 1, 2, 3, 4], .r [] [0, 1, 2, 3, 4, 9], .t false, .r [.c [(W n), (W m)] [(W n), (W m)] (num .i64 q)] [0, 1, 2, 3, 4, 9, 24], .t true, .r [.c [(W m), (W n)] [(W m), (W n)] (W r), .c [(ZS b r)] [(ZS b r)] (ZS t g)] [0, 1, 2, 3, 4, 9, 24]] ((cc h4 (cc (fq n.length 1 (wf n)) (cc (fq m.length 1 (wf m)) (cc h1 (cc h5 (cc (fq m.length 1 (wf m)) (cc (fq n.length 1 (wf n)) (cc h2 (cc (er b) (cc (fq r.length 1 (wf r)) (cc h3 (cc (er t) (cc (fq g.length 1 (wf g)) nn)))))))))))))) (by kernel_rfl)
theorem r8a_ge {a b t : Bool} {n m g r : List Nat}  {q : Int} 
    (h1 : Den PP 108 [(W n), (W m)] [(W n), (W m)] (num .i64 q))
    (h2 : Den PP 119 [(W n), (W m)] [(W n), (W m)] (W r))
    (h3 : Den PP 118 [(ZS a r)] [(ZS a r)] (ZS t g))
    (h4 : (a == b) = false)
    (h5 : (decide (q < (0:Int))) = false) :
    Goes E72 B72 [(0, (ZS a n)), (1, (ZS b m))] .ret [(4, (BX 153 (ZS t g)))] :=
  pathG [.r [] [0, 1, 2, 3, 4], .r [] [0, 1, 2, 3, 4, 9], .t false, .r [.c [(W n), (W m)] [(W n), (W m)] (num .i64 q)] [0, 1, 2, 3, 4, 9, 24], .t false, .r [.c [(W n), (W m)] [(W n), (W m)] (W r), .c [(ZS a r)] [(ZS a r)] (ZS t g)] [0, 1, 2, 3, 4, 9, 24]] ((cc h4 (cc (fq n.length 1 (wf n)) (cc (fq m.length 1 (wf m)) (cc h1 (cc h5 (cc (fq n.length 1 (wf n)) (cc (fq m.length 1 (wf m)) (cc h2 (cc (er a) (cc (fq r.length 1 (wf r)) (cc h3 (cc (er t) (cc (fq g.length 1 (wf g)) nn)))))))))))))) (by kernel_rfl)
theorem ref8_add (a b : Bool) (l m : List Nat) (hl : Wd l) (hm : Wd m) (ll : l.length ≤ 1073741824) (lm : m.length ≤ 1073741824) :
    Den PP 72 [ZS a l, ZS b m] [ZS a l, ZS b m] (ZI (zv a l + zv b m)) := by
  refine D72 (gout := [(4, BX 153 (ZI (zv a l + zv b m)))]) (e := .ret) ?_ (by first | exact .inr rfl | exact .inl rfl) (by kernel_rfl) (by kernel_rfl)

  by_cases h : a = b
  · subst h
    have hn := (ref_add l m hl hm (by omega) (by omega)).plain
    have hs := ref8_norm a (wd (val l + val m)) (wd_Wd _) (by
      have := len_sum (K := 1073741824) hl hm ll lm (z := val l + val m) (by omega)
      omega)
    have : zv a (wd (val l + val m)) = zv a l + zv a m := by
      unfold zv; rw [val_wd]; cases a <;> simp <;> omega
    rw [this] at hs
    exact r8a_eq hn hs (by simp)
  · have hc := ref_cmp l m hl hm (by omega) (by omega)
    have hab : (a == b) = false := by simpa using h
    by_cases hlt : val l < val m
    · have hsub := (ref_sub m l hm hl (by omega) (by omega) (by omega)).plain
      have hs := ref8_norm b (wd (val m - val l)) (wd_Wd _) (Nat.le_trans (wd_mono (by omega : val m - val l ≤ val m)) (Nat.le_trans (wd_len_of hm) (by omega)))
      have : zv b (wd (val m - val l)) = zv a l + zv b m := by
        unfold zv; rw [val_wd]; cases a <;> cases b <;> simp at h ⊢ <;> omega
      rw [this] at hs
      exact r8a_lt hc hsub hs hab (decide_eq_true (cmp3_lt.2 hlt))
    · have hsub := (ref_sub l m hl hm (by omega) (by omega) (by omega)).plain
      have hs := ref8_norm a (wd (val l - val m)) (wd_Wd _) (Nat.le_trans (wd_mono (by omega : val l - val m ≤ val l)) (Nat.le_trans (wd_len_of hl) (by omega)))
      have : zv a (wd (val l - val m)) = zv a l + zv b m := by
        unfold zv; rw [val_wd]; cases a <;> cases b <;> simp at h ⊢ <;> omega
      rw [this] at hs
      exact r8a_ge hc hsub hs hab (decide_eq_false (fun h => hlt (cmp3_lt.1 h)))
noncomputable def B19 : Code := codeOf Tryz.f19
noncomputable def E19 : Env := EV PP 40 []
theorem D19 {args outs : List S} {gout : List (Nat × S)} {e : Fin} {res : S} (hg : Goes E19 B19 (entry 0 args) e gout) (he : e = .normal ∨ e = .ret) (hle : Nat.ble args.length 40 = true)
    (hfin : finE (tabOf PP) gout Tryz.f19.results.toList args [] = some (outs, res)) : Den PP 19 args outs res :=
  den_tab (fn := Tryz.f19) (c := B19) (by kernel_rfl) (by kernel_rfl) (by kernel_rfl) (by kernel_rfl) hle hfin hg he
theorem r9_d0  {n d : List Nat} {f : Fq}  
    (h1 : Den PP 63 [(W f.d)] [(W f.d)] (W d))
    (h2 : Den PP 63 [(W f.n)] [(W f.n)] (W n))
    (h3 : ((d.length : Int) == (0:Int)) = true)
    (h4 : 0 = ([] : List Nat).length ∧ FEq 0 1 (rowF 1 []) (wf ([] : List Nat)))
    (h5 : 1 = ([1]).length ∧ FEq 1 1 (rowF 1 [(.d (.v (.int .u32 (1:Int))))]) (wf ([1]))) :
    Goes E19 B19 [(0, (FS f))] .ret [(2, (BX 34 (FS ⟨false, ([] : List Nat), [1]⟩)))] :=
  pathG [.r [] [0, 1, 2], .r [.c [(W f.d)] [(W f.d)] (W d)] [0, 1, 2, 3], .r [.c [(W f.n)] [(W f.n)] (W n)] [0, 1, 2, 3, 4], .r [.b true, .b true, .b true] [0, 1, 2, 3, 4, 19], .t true, .r [] [0, 1, 2, 3, 4, 19]] ((cc (fq f.d.length 1 (wf f.d)) (cc h1 (cc (fq f.n.length 1 (wf f.n)) (cc h2 (cc h3 (cc h3 (cc h3 (cc h3 (cc (er true) (cc (er false) (cc h4 (cc h5 nn))))))))))))) (by kernel_rfl)
theorem r9_n0  {n d : List Nat} {f : Fq}  
    (h1 : Den PP 63 [(W f.d)] [(W f.d)] (W d))
    (h2 : Den PP 63 [(W f.n)] [(W f.n)] (W n))
    (h3 : ((d.length : Int) == (0:Int)) = false)
    (h4 : ((n.length : Int) == (0:Int)) = true)
    (h5 : 0 = ([] : List Nat).length ∧ FEq 0 1 (rowF 1 []) (wf ([] : List Nat)))
    (h6 : 1 = ([1]).length ∧ FEq 1 1 (rowF 1 [(.d (.v (.int .u32 (1:Int))))]) (wf ([1]))) :
    Goes E19 B19 [(0, (FS f))] .ret [(2, (BX 34 (FS ⟨false, ([] : List Nat), [1]⟩)))] :=
  pathG [.r [] [0, 1, 2], .r [.c [(W f.d)] [(W f.d)] (W d)] [0, 1, 2, 3], .r [.c [(W f.n)] [(W f.n)] (W n)] [0, 1, 2, 3, 4], .r [.b false, .b false, .b false] [0, 1, 2, 3, 4, 19], .t true, .r [] [0, 1, 2, 3, 4, 19]] ((cc (fq f.d.length 1 (wf f.d)) (cc h1 (cc (fq f.n.length 1 (wf f.n)) (cc h2 (cc h3 (cc h3 (cc h3 (cc tt (cc (bf true h3 h4) (cc (er false) (cc h5 (cc h6 nn))))))))))))) (by kernel_rfl)
theorem r9_one  {n d : List Nat} {f : Fq}  
    (h1 : Den PP 63 [(W f.d)] [(W f.d)] (W d))
    (h2 : Den PP 63 [(W f.n)] [(W f.n)] (W n))
    (h3 : Den PP 64 [(W d)] [(W d)] (bl true))
    (h4 : ((d.length : Int) == (0:Int)) = false)
    (h5 : ((n.length : Int) == (0:Int)) = false) :
    Goes E19 B19 [(0, (FS f))] .ret [(2, (BX 34 (FS ⟨f.neg, n, d⟩)))] :=
  pathG [.r [] [0, 1, 2], .r [.c [(W f.d)] [(W f.d)] (W d)] [0, 1, 2, 3], .r [.c [(W f.n)] [(W f.n)] (W n)] [0, 1, 2, 3, 4], .r [.b false, .b false, .b false] [0, 1, 2, 3, 4, 19], .t false, .r [.c [(W d)] [(W d)] (bl true)] [0, 1, 2, 3, 4, 19, 25], .t false, .r [] [0, 1, 2, 3, 4, 19, 25]] ((cc (fq f.d.length 1 (wf f.d)) (cc h1 (cc (fq f.n.length 1 (wf f.n)) (cc h2 (cc h4 (cc h4 (cc h4 (cc tt (cc (bf true h4 h5) (cc (fq d.length 1 (wf d)) (cc h3 (cc (bn (er true)) (cc (er f.neg) (cc (fq n.length 1 (wf n)) (cc (fq d.length 1 (wf d)) nn)))))))))))))))) (by kernel_rfl)
theorem r9_all  {n d g x y : List Nat} {f : Fq}  
    (h1 : Den PP 63 [(W f.d)] [(W f.d)] (W d))
    (h2 : Den PP 63 [(W f.n)] [(W f.n)] (W n))
    (h3 : Den PP 64 [(W d)] [(W d)] (bl false))
    (h4 : Den PP 65 [(W n), (W d)] [(W n), (W d)] (W g))
    (h5 : Den PP 66 [(W n), (W g)] [(W n), (W g)] (W x))
    (h6 : Den PP 66 [(W d), (W g)] [(W d), (W g)] (W y))
    (h7 : ((d.length : Int) == (0:Int)) = false)
    (h8 : ((n.length : Int) == (0:Int)) = false) :
    Goes E19 B19 [(0, (FS f))] .ret [(2, (BX 34 (FS ⟨f.neg, x, y⟩)))] :=
  pathG [.r [] [0, 1, 2], .r [.c [(W f.d)] [(W f.d)] (W d)] [0, 1, 2, 3], .r [.c [(W f.n)] [(W f.n)] (W n)] [0, 1, 2, 3, 4], .r [.b false, .b false, .b false] [0, 1, 2, 3, 4, 19], .t false, .r [.c [(W d)] [(W d)] (bl false)] [0, 1, 2, 3, 4, 19, 25], .t true, .r [.c [(W n), (W d)] [(W n), (W d)] (W g)] [0, 1, 2, 3, 4, 5, 19, 25], .r [.c [(W n), (W g)] [(W n), (W g)] (W x)] [0, 1, 2, 3, 4, 5, 19, 25], .r [.c [(W d), (W g)] [(W d), (W g)] (W y)] [0, 1, 2, 3, 4, 5, 19, 25], .r [] [0, 1, 2, 3, 4, 5, 19, 25]] ((cc (fq f.d.length 1 (wf f.d)) (cc h1 (cc (fq f.n.length 1 (wf f.n)) (cc h2 (cc h7 (cc h7 (cc h7 (cc tt (cc (bf true h7 h8) (cc (fq d.length 1 (wf d)) (cc h3 (cc (bn (er false)) (cc (fq n.length 1 (wf n)) (cc (fq d.length 1 (wf d)) (cc h4 (cc (fq n.length 1 (wf n)) (cc (fq g.length 1 (wf g)) (cc h5 (cc (fq d.length 1 (wf d)) (cc (fq g.length 1 (wf g)) (cc h6 (cc (er f.neg) (cc (fq x.length 1 (wf x)) (cc (fq y.length 1 (wf y)) nn))))))))))))))))))))))))) (by kernel_rfl)

theorem rq_zero : rq 0 = ⟨false, [], [1]⟩ := by
  unfold rq
  show (⟨decide ((0:Int) < 0), wd (Int.natAbs 0), wd 1⟩ : Fq) = _
  rw [wd1, Int.natAbs_zero, wd_zero]; rfl
theorem rq_mk (b : Bool) (n d : Nat) (hn : n ≠ 0) (hd : d ≠ 0) : rq (mkRat (if b then -(n : Int) else n) d) = ⟨b, wd (n / Nat.gcd n d), wd (d / Nat.gcd n d)⟩ := by
  have ha : (if b then -(n : Int) else (n : Int)).natAbs = n := by cases b <;> simp
  have hg := Nat.gcd_dvd_left n d
  unfold rq
  rw [Rat.num_mkRat, Rat.den_mkRat, if_neg hd, if_neg hd, ha, Nat.gcd_comm d n, ← Int.sign_mul_natAbs_div b n _ hg]
  have hpos : 0 < n / Nat.gcd n d := Nat.div_pos (Nat.le_of_dvd (by omega) hg) (Nat.gcd_pos_of_pos_left _ (by omega))
  generalize n / Nat.gcd n d = q at *
  cases b
  · first | (simp; done) | (simp; omega)
  · first | (simp; done) | (simp; omega)
theorem one_ne_rf : (1 : Nat) = [1].length ∧ FEq 1 1 (rowF 1 [(.d (.v (.int .u32 (1:Int))))]) (wf [1]) := by
  refine ⟨rfl, FEq.words fun j hj => ?_⟩
  have : j = 0 := by omega
  subst this; rfl
theorem ref9_norm (f : Fq) (h : Ok 134217728 f) :
    Den PP 19 [FS f] [FS f] (FS (rq (fv f))) := by
  refine D19 (gout := [(2, BX 34 (FS (rq (fv f))))]) (e := .ret) ?_ (by first | exact .inr rfl | exact .inl rfl) (by kernel_rfl) (by kernel_rfl)

  have hd := (ref_norm f.d (by have := h.ld; omega)).plain
  have hn := (ref_norm f.n (by have := h.ln; omega)).plain
  rw [trimL_eq h.wd] at hd
  rw [trimL_eq h.wn] at hn
  have ld := wd_len_of h.wd
  have ln := wd_len_of h.wn
  have l1 := h.ln
  have l2 := h.ld
  by_cases d0 : val f.d = 0
  · have : fv f = 0 := by unfold fv; rw [d0, Rat.mkRat_zero]
    rw [this, rq_zero]
    rw [d0, wd_zero] at hd
    exact r9_d0 hd hn rfl ⟨rfl, fun j i hj _ => by omega⟩ one_ne_rf
  have pd := wd_pos_len d0
  have ed : (((wd (val f.d)).length : Int) == (0:Int)) = false := by rw [beq_eq_false_iff_ne]; omega
  by_cases n0 : val f.n = 0
  · have : fv f = 0 := by unfold fv; rw [show zv f.neg f.n = 0 by have := zv_abs f.neg f.n; omega, Rat.zero_mkRat]
    rw [this, rq_zero]
    rw [n0, wd_zero] at hn
    exact r9_n0 hd hn ed rfl ⟨rfl, fun j i hj _ => by omega⟩ one_ne_rf
  have pn := wd_pos_len n0
  have en : (((wd (val f.n)).length : Int) == (0:Int)) = false := by rw [beq_eq_false_iff_ne]; omega
  have ho := ref_one (wd (val f.d))
  rw [isOne_wd] at ho
  have hq : rq (fv f) = ⟨f.neg, wd (val f.n / Nat.gcd (val f.n) (val f.d)), wd (val f.d / Nat.gcd (val f.n) (val f.d))⟩ := rq_mk f.neg (val f.n) (val f.d) n0 d0
  rw [hq]
  by_cases h1 : val f.d = 1
  · rw [decide_eq_true h1] at ho
    rw [h1] at ho hd ed ⊢
    rw [Nat.gcd_one_right, Nat.div_one, Nat.div_one]
    exact r9_one hd hn ho ed en
  · rw [decide_eq_false h1] at ho
    have hg := ref_gcd (wd (val f.n)) (wd (val f.d)) (wd_Wd _) (wd_Wd _) (by omega) (by omega)
    rw [val_wd, val_wd] at hg
    have hgn : Nat.gcd (val f.n) (val f.d) ≠ 0 := by
      have := Nat.gcd_pos_of_pos_left (val f.d) (show 0 < val f.n by omega)
      omega
    have lg := wd_mono (Nat.gcd_le_left (val f.d) (show 0 < val f.n by omega))
    have v1 := ref_over (wd (val f.n)) (Nat.gcd (val f.n) (val f.d)) (wd_Wd _) (by omega) (by omega) hgn
    have v2 := ref_over (wd (val f.d)) (Nat.gcd (val f.n) (val f.d)) (wd_Wd _) (by omega) (by omega) hgn
    rw [val_wd] at v1 v2
    exact r9_all hd hn ho hg v1 v2 ed en
end Go.X
