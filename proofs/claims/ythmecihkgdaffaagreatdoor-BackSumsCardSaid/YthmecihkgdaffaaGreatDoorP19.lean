/- Part 19 of the proof of BackSums: Paths and contracts. Paths and contracts. No conditions but those that each theorem names. -/
import Derived.Test.YthmecihkgdaffaaGreatDoorP18
namespace Go.X
open Go Go.Proofs
/-- a whole number, as it stands -/
def ZS (b : Bool) (l : List Nat) : S := .one true [.d (.v (.bool b)), .d (.sf 1 l.length (wf l))]
def zsc (b : Bool) (l : List Nat) : Bool × List C := (true, [.d (.v (.bool b)), .d (.sf 1 l.length (wf l))])
def BX (t : Nat) : S → S
  | .one _ cs => .box t cs
  | x => x
/-- its value -/
def zv (b : Bool) (l : List Nat) : Int := if b then -(val l : Int) else val l
/-- the right one of a value -/
def ZI (z : Int) : S := ZS (decide (z < 0)) (wd z.natAbs)
def zic (z : Int) : Bool × List C := zsc (decide (z < 0)) (wd z.natAbs)
theorem zv_abs (b : Bool) (l : List Nat) : (zv b l).natAbs = val l := by unfold zv; split <;> omega
theorem zv_wd (z : Int) : zv (decide (z < 0)) (wd z.natAbs) = z := by
  unfold zv; rw [val_wd]
  by_cases h : z < 0 <;> simp [h] <;> omega
noncomputable def B126 : Code := codeOf Tryz.f126
noncomputable def E126 : Env := EV PP 13 []
theorem D126 {args outs : List S} {gout : List (Nat × S)} {e : Fin} {res : S} (hg : Goes E126 B126 (entry 0 args) e gout) (he : e = .normal ∨ e = .ret) (hle : Nat.ble args.length 13 = true)
    (hfin : finE (tabOf PP) gout Tryz.f126.results.toList args [] = some (outs, res)) : Den PP 126 args outs res :=
  den_tab (fn := Tryz.f126) (c := B126) (by kernel_rfl) (by kernel_rfl) (by kernel_rfl) (by kernel_rfl) hle hfin hg he
theorem sg_t {b t : Bool} {l : List Nat}
    (h1 : b = true)
    (h2 : (bif b then (decide ((l.length : Int) > (0:Int))) else false) = t) :
    Goes E126 B126 [(0, (bl b)), (1, (W l))] .ret [(4, (BX 58 (ZS t l)))] :=
  pathG [.r [] [0, 1, 4], .r [.b true, .b true, .b true] [0, 1, 4]] ((cc h1 (cc h1 (cc h1 (cc tt (cc h2 (cc (fq l.length 1 (wf l)) nn))))))) (by kernel_rfl)
theorem sg_f {b : Bool} {l : List Nat}
    (h1 : b = false) :
    Goes E126 B126 [(0, (bl b)), (1, (W l))] .ret [(4, (BX 58 (ZS false l)))] :=
  pathG [.r [] [0, 1, 4], .r [.b false, .b false, .b false] [0, 1, 4]] ((cc h1 (cc h1 (cc h1 (cc h1 (cc (er false) (cc (fq l.length 1 (wf l)) nn))))))) (by kernel_rfl)

theorem whole_signed (b : Bool) (n : Nat) : Den PP 126 [bl b, W (wd n)] [bl b, W (wd n)] (ZI (if b then -(n : Int) else n)) := by
  cases b with
  | true =>
    have hz : ZI (if true then -(n : Int) else n) = ZS (decide (0 < n)) (wd n) := by
      unfold ZI
      rw [if_pos rfl, show (-(n : Int)).natAbs = n by omega]
      congr 1
      exact decide_eq_decide.2 (by omega)
    rw [hz]
    refine D126 (gout := [(4, BX 58 (ZS (decide (0 < n)) (wd n)))]) (e := .ret) ?_ (.inr rfl) (by kernel_rfl) (by kernel_rfl)
    refine sg_t rfl ?_
    by_cases h : n = 0
    · subst h; rw [wd_zero]; rfl
    · have := wd_pos_len h
      rw [decide_eq_true (by omega : 0 < n)]; exact decide_eq_true (by omega)
  | false =>
    have hz : ZI (if false then -(n : Int) else n) = ZS false (wd n) := by
      unfold ZI
      rw [if_neg (by simp), Int.natAbs_natCast]
      congr 1
    rw [hz]
    refine D126 (gout := [(4, BX 58 (ZS false (wd n)))]) (e := .ret) ?_ (.inr rfl) (by kernel_rfl) (by kernel_rfl)
    exact sg_f rfl
noncomputable def B164 : Code := codeOf Tryz.f164
noncomputable def E164 : Env := EV PP 9 []
theorem D164 {args outs : List S} {gout : List (Nat × S)} {e : Fin} {res : S} (hg : Goes E164 B164 (entry 0 args) e gout) (he : e = .normal ∨ e = .ret) (hle : Nat.ble args.length 9 = true)
    (hfin : finE (tabOf PP) gout Tryz.f164.results.toList args [] = some (outs, res)) : Den PP 164 args outs res :=
  den_tab (fn := Tryz.f164) (c := B164) (by kernel_rfl) (by kernel_rfl) (by kernel_rfl) (by kernel_rfl) hle hfin hg he
theorem wn_p {b t : Bool} {l r g : List Nat}   
    (h1 : Den PP 168 [(W l)] [(W l)] (W r))
    (h2 : Den PP 126 [(bl b), (W r)] [(bl b), (W r)] (ZS t g)) :
    Goes E164 B164 [(0, (ZS b l))] .ret [(2, (BX 58 (ZS t g)))] :=
  pathG [.r [] [0, 1, 2], .r [.c [(W l)] [(W l)] (W r), .c [(bl b), (W r)] [(bl b), (W r)] (ZS t g)] [0, 1, 2]] ((cc (fq l.length 1 (wf l)) (cc h1 (cc (er b) (cc (fq r.length 1 (wf r)) (cc h2 (cc (er t) (cc (fq g.length 1 (wf g)) nn)))))))) (by kernel_rfl)
theorem whole_norm (b : Bool) (l : List Nat) (hw : Wd l) (hl : l.length ≤ 4294967296) :
    Den PP 164 [ZS b l] [ZS b l] (ZI (zv b l)) := by
  refine D164 (gout := [(2, BX 58 (ZI (zv b l)))]) (e := .ret) ?_ (by first | exact .inr rfl | exact .inl rfl) (by kernel_rfl) (by kernel_rfl)

  have hn := (nat_norm l hl).plain
  rw [trimL_eq hw] at hn
  exact wn_p hn (whole_signed b (val l))
noncomputable def B76 : Code := codeOf Tryz.f76
noncomputable def E76 : Env := EV PP 14 []
theorem D76 {args outs : List S} {gout : List (Nat × S)} {e : Fin} {res : S} (hg : Goes E76 B76 (entry 0 args) e gout) (he : e = .normal ∨ e = .ret) (hle : Nat.ble args.length 14 = true)
    (hfin : finE (tabOf PP) gout Tryz.f76.results.toList args [] = some (outs, res)) : Den PP 76 args outs res :=
  den_tab (fn := Tryz.f76) (c := B76) (by kernel_rfl) (by kernel_rfl) (by kernel_rfl) (by kernel_rfl) hle hfin hg he
theorem wo_neg {t : Bool} {r g : List Nat} {n : Nat} {c : Int} 
    (h1 : Den PP 77 [(num .u64 ((n : Nat) : Int))] [(num .u64 ((n : Nat) : Int))] (W r))
    (h2 : Den PP 126 [(bl true), (W r)] [(bl true), (W r)] (ZS t g))
    (h3 : (decide (c < (0:Int))) = true)
    (h4 : (wr .u64 (0 - (wr .u64 c))) = ((n : Nat) : Int)) :
    Goes E76 B76 [(0, (num .i64 c))] .ret [(2, (BX 58 (ZS t g)))] :=
  pathG [.r [] [0, 2], .r [] [0, 2, 4], .t true, .r [.c [(num .u64 ((n : Nat) : Int))] [(num .u64 ((n : Nat) : Int))] (W r), .c [(bl true), (W r)] [(bl true), (W r)] (ZS t g)] [0, 2, 4]] ((cc h3 (cc tt (cc tt (cc h4 (cc h1 (cc (er true) (cc (fq r.length 1 (wf r)) (cc h2 (cc (er t) (cc (fq g.length 1 (wf g)) nn))))))))))) (by kernel_rfl)
theorem wo_pos {t : Bool} {r g : List Nat} {n : Nat} {c : Int} 
    (h1 : Den PP 77 [(num .u64 ((n : Nat) : Int))] [(num .u64 ((n : Nat) : Int))] (W r))
    (h2 : Den PP 126 [(bl false), (W r)] [(bl false), (W r)] (ZS t g))
    (h3 : (decide (c < (0:Int))) = false)
    (h4 : (wr .u64 c) = ((n : Nat) : Int)) :
    Goes E76 B76 [(0, (num .i64 c))] .ret [(2, (BX 58 (ZS t g)))] :=
  pathG [.r [] [0, 2], .r [] [0, 2, 4], .t false, .r [.c [(num .u64 ((n : Nat) : Int))] [(num .u64 ((n : Nat) : Int))] (W r), .c [(bl false), (W r)] [(bl false), (W r)] (ZS t g)] [0, 2, 4]] ((cc h3 (cc tt (cc h4 (cc h1 (cc (er false) (cc (fq r.length 1 (wf r)) (cc h2 (cc (er t) (cc (fq g.length 1 (wf g)) nn)))))))))) (by kernel_rfl)
theorem whole_of (c : Int) (h1 : -9223372036854775808 ≤ c) (h2 : c ≤ 9223372036854775807) :
    Den PP 76 [num .i64 c] [num .i64 c] (ZI c) := by
  refine D76 (gout := [(2, BX 58 (ZI c))]) (e := .ret) ?_ (by first | exact .inr rfl | exact .inl rfl) (by kernel_rfl) (by kernel_rfl)

  by_cases h : c < 0
  · have hs := whole_signed true c.natAbs
    rw [if_pos rfl, show (-(c.natAbs : Int)) = c by omega] at hs
    exact wo_neg (n := c.natAbs) (nat_ofw _ (by omega)) hs (decide_eq_true h) (by rw [wr64, wr64]; omega)
  · have hs := whole_signed false c.natAbs
    rw [if_neg (by simp), show ((c.natAbs : Nat) : Int) = c by omega] at hs
    exact wo_pos (n := c.natAbs) (nat_ofw _ (by omega)) hs (decide_eq_false h) (by rw [wr64]; omega)
noncomputable def B79 : Code := codeOf Tryz.f79
noncomputable def E79 : Env := EV PP 10 []
theorem D79 {args outs : List S} {gout : List (Nat × S)} {e : Fin} {res : S} (hg : Goes E79 B79 (entry 0 args) e gout) (he : e = .normal ∨ e = .ret) (hle : Nat.ble args.length 10 = true)
    (hfin : finE (tabOf PP) gout Tryz.f79.results.toList args [] = some (outs, res)) : Den PP 79 args outs res :=
  den_tab (fn := Tryz.f79) (c := B79) (by kernel_rfl) (by kernel_rfl) (by kernel_rfl) (by kernel_rfl) hle hfin hg he
theorem ws_0 {b : Bool} {l : List Nat}   
    (h1 : Den PP 128 [(W l)] [(W l)] (bl true)) :
    Goes E79 B79 [(0, (ZS b l))] .ret [(2, (num .i64 (0:Int)))] :=
  pathG [.r [] [0, 1, 2], .r [.c [(W l)] [(W l)] (bl true)] [0, 1, 2, 3], .t true, .r [] [0, 1, 2, 3]] ((cc (fq l.length 1 (wf l)) (cc h1 (cc (er true) (cc (er (0:Int)) nn))))) (by kernel_rfl)
theorem ws_n {b : Bool} {l : List Nat}   
    (h1 : Den PP 128 [(W l)] [(W l)] (bl false))
    (h2 : b = true) :
    Goes E79 B79 [(0, (ZS b l))] .ret [(2, (num .i64 (-1:Int)))] :=
  pathG [.r [] [0, 1, 2], .r [.c [(W l)] [(W l)] (bl false)] [0, 1, 2, 3], .t false, .r [] [0, 1, 2, 3, 7], .t true, .r [] [0, 1, 2, 3, 7]] ((cc (fq l.length 1 (wf l)) (cc h1 (cc (er false) (cc h2 (cc (er (-1:Int)) nn)))))) (by kernel_rfl)
theorem ws_p {b : Bool} {l : List Nat}   
    (h1 : Den PP 128 [(W l)] [(W l)] (bl false))
    (h2 : b = false) :
    Goes E79 B79 [(0, (ZS b l))] .ret [(2, (num .i64 (1:Int)))] :=
  pathG [.r [] [0, 1, 2], .r [.c [(W l)] [(W l)] (bl false)] [0, 1, 2, 3], .t false, .r [] [0, 1, 2, 3, 7], .t false, .r [] [0, 1, 2, 3, 7]] ((cc (fq l.length 1 (wf l)) (cc h1 (cc (er false) (cc h2 (cc (er (1:Int)) nn)))))) (by kernel_rfl)
theorem whole_sign (b : Bool) (l : List Nat) (hw : Wd l) (hl : l.length ≤ 4294967296) :
    Den PP 79 [ZS b l] [ZS b l] (num .i64 (zv b l).sign) := by
  refine D79 (gout := [(2, num .i64 (zv b l).sign)]) (e := .ret) ?_ (by first | exact .inr rfl | exact .inl rfl) (by kernel_rfl) (by kernel_rfl)

  have hz := nat_zero l hl
  rw [trimL_eq hw] at hz
  by_cases h : val l = 0
  · have : zv b l = 0 := by unfold zv; rw [h]; split <;> rfl
    rw [this]
    rw [h, wd_zero] at hz
    exact ws_0 hz
  · have he : (wd (val l)).isEmpty = false := by
      have := wd_pos_len h
      cases hh : wd (val l) with
      | nil => rw [hh] at this; simp at this
      | cons => rfl
    rw [he] at hz
    cases b with
    | true =>
      have : (zv true l).sign = -1 := by unfold zv; rw [if_pos rfl]; exact Int.sign_eq_neg_one_of_neg (by omega)
      rw [this]; exact ws_n hz rfl
    | false =>
      have : (zv false l).sign = 1 := by unfold zv; rw [if_neg (by simp)]; exact Int.sign_eq_one_of_pos (by omega)
      rw [this]; exact ws_p hz rfl
noncomputable def B210 : Code := codeOf Tryz.f210
noncomputable def E210 : Env := EV PP 10 []
theorem D210 {args outs : List S} {gout : List (Nat × S)} {e : Fin} {res : S} (hg : Goes E210 B210 (entry 0 args) e gout) (he : e = .normal ∨ e = .ret) (hle : Nat.ble args.length 10 = true)
    (hfin : finE (tabOf PP) gout Tryz.f210.results.toList args [] = some (outs, res)) : Den PP 210 args outs res :=
  den_tab (fn := Tryz.f210) (c := B210) (by kernel_rfl) (by kernel_rfl) (by kernel_rfl) (by kernel_rfl) hle hfin hg he
theorem wg_p {b t : Bool} {l r g : List Nat}   
    (h1 : Den PP 168 [(W l)] [(W l)] (W r))
    (h2 : Den PP 126 [(bl (!b)), (W r)] [(bl (!b)), (W r)] (ZS t g)) :
    Goes E210 B210 [(0, (ZS b l))] .ret [(2, (BX 58 (ZS t g)))] :=
  pathG [.r [] [0, 1, 2], .r [.c [(W l)] [(W l)] (W r), .c [(bl (!b)), (W r)] [(bl (!b)), (W r)] (ZS t g)] [0, 1, 2]] ((cc (fq l.length 1 (wf l)) (cc h1 (cc (er (!b)) (cc (fq r.length 1 (wf r)) (cc h2 (cc (er t) (cc (fq g.length 1 (wf g)) nn)))))))) (by kernel_rfl)
theorem whole_neg (b : Bool) (l : List Nat) (hw : Wd l) (hl : l.length ≤ 4294967296) :
    Den PP 210 [ZS b l] [ZS b l] (ZI (-(zv b l))) := by
  refine D210 (gout := [(2, BX 58 (ZI (-(zv b l))))]) (e := .ret) ?_ (by first | exact .inr rfl | exact .inl rfl) (by kernel_rfl) (by kernel_rfl)

  have hn := (nat_norm l hl).plain
  rw [trimL_eq hw] at hn
  have hs := whole_signed (!b) (val l)
  have : (if (!b) = true then -(val l : Int) else val l) = -(zv b l) := by unfold zv; cases b <;> simp
  rw [this] at hs
  exact wg_p hn hs
noncomputable def B129 : Code := codeOf Tryz.f129
noncomputable def E129 : Env := EV PP 16 []
theorem D129 {args outs : List S} {gout : List (Nat × S)} {e : Fin} {res : S} (hg : Goes E129 B129 (entry 0 args) e gout) (he : e = .normal ∨ e = .ret) (hle : Nat.ble args.length 16 = true)
    (hfin : finE (tabOf PP) gout Tryz.f129.results.toList args [] = some (outs, res)) : Den PP 129 args outs res :=
  den_tab (fn := Tryz.f129) (c := B129) (by kernel_rfl) (by kernel_rfl) (by kernel_rfl) (by kernel_rfl) hle hfin hg he
theorem wm_p {a b t : Bool} {l m r g : List Nat}   
    (h1 : Den PP 116 [(W l), (W m)] [(W l), (W m)] (W r))
    (h2 : Den PP 126 [(bl (!(a == b))), (W r)] [(bl (!(a == b))), (W r)] (ZS t g)) :
    Goes E129 B129 [(0, (ZS a l)), (1, (ZS b m))] .ret [(4, (BX 58 (ZS t g)))] :=
  pathG [.r [] [0, 1, 2, 3, 4], .r [.c [(W l), (W m)] [(W l), (W m)] (W r), .c [(bl (!(a == b))), (W r)] [(bl (!(a == b))), (W r)] (ZS t g)] [0, 1, 2, 3, 4]] ((cc (fq l.length 1 (wf l)) (cc (fq m.length 1 (wf m)) (cc h1 (cc (er (!(a == b))) (cc (fq r.length 1 (wf r)) (cc h2 (cc (er t) (cc (fq g.length 1 (wf g)) nn))))))))) (by kernel_rfl)
theorem whole_mul (a b : Bool) (l m : List Nat) (hl : Wd l) (hm : Wd m) (ll : l.length ≤ 1073741824) (lm : m.length ≤ 1073741824) :
    Den PP 129 [ZS a l, ZS b m] [ZS a l, ZS b m] (ZI (zv a l * zv b m)) := by
  refine D129 (gout := [(4, BX 58 (ZI (zv a l * zv b m)))]) (e := .ret) ?_ (by first | exact .inr rfl | exact .inl rfl) (by kernel_rfl) (by kernel_rfl)

  have hp := (prod_mul l m hl hm ll lm).plain
  have hs := whole_signed (!(a == b)) (val l * val m)
  have : (if (!(a == b)) = true then -((val l * val m : Nat) : Int) else (val l * val m : Nat)) = zv a l * zv b m := by
    unfold zv; cases a <;> cases b <;> simp [Int.natCast_mul, Int.neg_mul, Int.mul_neg]
  rw [this] at hs
  exact wm_p hp hs
noncomputable def B114 : Code := codeOf Tryz.f114
noncomputable def E114 : Env := EV PP 39 []
theorem D114 {args outs : List S} {gout : List (Nat × S)} {e : Fin} {res : S} (hg : Goes E114 B114 (entry 0 args) e gout) (he : e = .normal ∨ e = .ret) (hle : Nat.ble args.length 39 = true)
    (hfin : finE (tabOf PP) gout Tryz.f114.results.toList args [] = some (outs, res)) : Den PP 114 args outs res :=
  den_tab (fn := Tryz.f114) (c := B114) (by kernel_rfl) (by kernel_rfl) (by kernel_rfl) (by kernel_rfl) hle hfin hg he
theorem wa_eq {a b t : Bool} {l m r g : List Nat}   
    (h1 : Den PP 165 [(WW [l, m])] [(WW [l, m])] (W r))
    (h2 : Den PP 126 [(bl a), (W r)] [(bl a), (W r)] (ZS t g))
    (h3 : (a == b) = true)
    (h4 : 2 = ([l, m]).length ∧ FEq 2 1 (rowF 1 [(.d (.sf 1 l.length (wf l))), (.d (.sf 1 m.length (wf m)))]) (wwf ([l, m]))) :
    Goes E114 B114 [(0, (ZS a l)), (1, (ZS b m))] .ret [(4, (BX 58 (ZS t g)))] :=
  pathG [.r [] [0, 1, 2, 3, 4], .r [] [0, 1, 2, 3, 4, 11], .t true, .r [.c [(WW [l, m])] [(WW [l, m])] (W r), .c [(bl a), (W r)] [(bl a), (W r)] (ZS t g)] [0, 1, 2, 3, 4, 11]] ((cc h3 (cc h4 (cc h1 (cc (er a) (cc (fq r.length 1 (wf r)) (cc h2 (cc (er t) (cc (fq g.length 1 (wf g)) nn))))))))) (by kernel_rfl)
theorem wa_lt {a b t : Bool} {l m r g : List Nat}   {q : Int}
    (h1 : Den PP 166 [(W l), (W m)] [(W l), (W m)] (.tup [wc r, ic q]))
    (h2 : Den PP 126 [(bl b), (W r)] [(bl b), (W r)] (ZS t g))
    (h3 : (a == b) = false)
    (h4 : (decide (q < (0:Int))) = true) :
    Goes E114 B114 [(0, (ZS a l)), (1, (ZS b m))] .ret [(4, (BX 58 (ZS t g)))] :=
  pathG [.r [] [0, 1, 2, 3, 4], .r [] [0, 1, 2, 3, 4, 11], .t false, .r [.c [(W l), (W m)] [(W l), (W m)] (.tup [wc r, ic q])] [0, 1, 2, 3, 4, 5, 6, 11], .r [] [0, 1, 2, 3, 4, 5, 6, 11, 30], .t true, .r [.c [(bl b), (W r)] [(bl b), (W r)] (ZS t g)] [0, 1, 2, 3, 4, 5, 6, 11, 30]] ((cc h3 (cc (fq l.length 1 (wf l)) (cc (fq m.length 1 (wf m)) (cc h1 (cc h4 (cc (er b) (cc (fq r.length 1 (wf r)) (cc h2 (cc (er t) (cc (fq g.length 1 (wf g)) nn))))))))))) (by kernel_rfl)
theorem wa_ge {a b t : Bool} {l m r g : List Nat}   {q : Int}
    (h1 : Den PP 166 [(W l), (W m)] [(W l), (W m)] (.tup [wc r, ic q]))
    (h2 : Den PP 126 [(bl a), (W r)] [(bl a), (W r)] (ZS t g))
    (h3 : (a == b) = false)
    (h4 : (decide (q < (0:Int))) = false) :
    Goes E114 B114 [(0, (ZS a l)), (1, (ZS b m))] .ret [(4, (BX 58 (ZS t g)))] :=
  pathG [.r [] [0, 1, 2, 3, 4], .r [] [0, 1, 2, 3, 4, 11], .t false, .r [.c [(W l), (W m)] [(W l), (W m)] (.tup [wc r, ic q])] [0, 1, 2, 3, 4, 5, 6, 11], .r [] [0, 1, 2, 3, 4, 5, 6, 11, 30], .t false, .r [.c [(bl a), (W r)] [(bl a), (W r)] (ZS t g)] [0, 1, 2, 3, 4, 5, 6, 11, 30]] ((cc h3 (cc (fq l.length 1 (wf l)) (cc (fq m.length 1 (wf m)) (cc h1 (cc h4 (cc (er a) (cc (fq r.length 1 (wf r)) (cc h2 (cc (er t) (cc (fq g.length 1 (wf g)) nn))))))))))) (by kernel_rfl)

theorem ww2 (l m : List Nat) : (2 : Nat) = [l, m].length ∧ FEq 2 1 (rowF 1 [(.d (.sf 1 l.length (wf l))), (.d (.sf 1 m.length (wf m)))]) (wwf [l, m]) := by
  refine ⟨rfl, fun j i hj hi => ?_⟩
  have : i = 0 := by omega
  subst this
  match j, hj with
  | 0, _ => exact D.eqv.refl _
  | 1, _ => exact D.eqv.refl _
  | j + 2, h => omega
theorem whole_add (a b : Bool) (l m : List Nat) (hl : Wd l) (hm : Wd m) (ll : l.length ≤ 1073741824) (lm : m.length ≤ 1073741824) :
    Den PP 114 [ZS a l, ZS b m] [ZS a l, ZS b m] (ZI (zv a l + zv b m)) := by
  refine D114 (gout := [(4, BX 58 (ZI (zv a l + zv b m)))]) (e := .ret) ?_ (by first | exact .inr rfl | exact .inl rfl) (by kernel_rfl) (by kernel_rfl)

  by_cases h : a = b
  · subst h
    have hn := nat_add [l, m] (by intro x hx; simp at hx; rcases hx with rfl | rfl <;> assumption) (by intro x hx; simp at hx; rcases hx with rfl | rfl <;> assumption) (by simp)
    have hs := whole_signed a (vals [l, m])
    have hv : vals [l, m] = val l + val m := by simp [vals]
    have : (if a = true then -((vals [l, m] : Nat) : Int) else (vals [l, m] : Nat)) = zv a l + zv a m := by
      rw [hv]; unfold zv; cases a <;> simp <;> omega
    rw [this] at hs
    exact wa_eq hn hs (by simp) (ww2 l m)
  · have hgp := nat_gap l m hl hm (by omega) (by omega)
    have hab : (a == b) = false := by simpa using h
    by_cases hlt : val l < val m
    · have hs := whole_signed b (val l - val m + (val m - val l))
      have : (if b = true then -((val l - val m + (val m - val l) : Nat) : Int) else (val l - val m + (val m - val l) : Nat)) = zv a l + zv b m := by
        unfold zv; cases a <;> cases b <;> simp at h ⊢ <;> omega
      rw [this] at hs
      exact wa_lt hgp hs hab (decide_eq_true (cmp3_lt.2 hlt))
    · have hs := whole_signed a (val l - val m + (val m - val l))
      have : (if a = true then -((val l - val m + (val m - val l) : Nat) : Int) else (val l - val m + (val m - val l) : Nat)) = zv a l + zv b m := by
        unfold zv; cases a <;> cases b <;> simp at h ⊢ <;> omega
      rw [this] at hs
      exact wa_ge hgp hs hab (decide_eq_false (fun h => hlt (cmp3_lt.1 h)))
noncomputable def B173 : Code := codeOf Tryz.f173
noncomputable def E173 : Env := EV PP 9 []
theorem D173 {args outs : List S} {gout : List (Nat × S)} {e : Fin} {res : S} (hg : Goes E173 B173 (entry 0 args) e gout) (he : e = .normal ∨ e = .ret) (hle : Nat.ble args.length 9 = true)
    (hfin : finE (tabOf PP) gout Tryz.f173.results.toList args [] = some (outs, res)) : Den PP 173 args outs res :=
  den_tab (fn := Tryz.f173) (c := B173) (by kernel_rfl) (by kernel_rfl) (by kernel_rfl) (by kernel_rfl) hle hfin hg he
theorem wb_p {a b t c : Bool} {l m r g : List Nat}
    (h1 : Den PP 210 [(ZS b m)] [(ZS b m)] (ZS t g))
    (h2 : Den PP 114 [(ZS a l), (ZS t g)] [(ZS a l), (ZS t g)] (ZS c r)) :
    Goes E173 B173 [(0, (ZS a l)), (1, (ZS b m))] .ret [(4, (BX 58 (ZS c r)))] :=
  pathG [.r [] [0, 1, 2, 3, 4], .r [.c [(ZS b m)] [(ZS b m)] (ZS t g), .c [(ZS a l), (ZS t g)] [(ZS a l), (ZS t g)] (ZS c r)] [0, 1, 2, 3, 4]] ((cc (er b) (cc (fq m.length 1 (wf m)) (cc h1 (cc (er a) (cc (fq l.length 1 (wf l)) (cc (er t) (cc (fq g.length 1 (wf g)) (cc h2 (cc (er c) (cc (fq r.length 1 (wf r)) nn))))))))))) (by kernel_rfl)
theorem whole_sub (a b : Bool) (l m : List Nat) (hl : Wd l) (hm : Wd m) (ll : l.length ≤ 1073741824) (lm : m.length ≤ 1073741824) :
    Den PP 173 [ZS a l, ZS b m] [ZS a l, ZS b m] (ZI (zv a l - zv b m)) := by
  refine D173 (gout := [(4, BX 58 (ZI (zv a l - zv b m)))]) (e := .ret) ?_ (by first | exact .inr rfl | exact .inl rfl) (by kernel_rfl) (by kernel_rfl)

  have hn := whole_neg b m hm (by omega)
  have ha := whole_add a (decide (-(zv b m) < 0)) l (wd (-(zv b m)).natAbs) hl (wd_Wd _) ll (by rw [Int.natAbs_neg, zv_abs]; exact Nat.le_trans (wd_len_of hm) lm)
  rw [zv_wd, ← Int.sub_eq_add_neg] at ha
  exact wb_p hn ha
noncomputable def B130 : Code := codeOf Tryz.f130
noncomputable def E130 : Env := EV PP 9 []
theorem D130 {args outs : List S} {gout : List (Nat × S)} {e : Fin} {res : S} (hg : Goes E130 B130 (entry 0 args) e gout) (he : e = .normal ∨ e = .ret) (hle : Nat.ble args.length 9 = true)
    (hfin : finE (tabOf PP) gout Tryz.f130.results.toList args [] = some (outs, res)) : Den PP 130 args outs res :=
  den_tab (fn := Tryz.f130) (c := B130) (by kernel_rfl) (by kernel_rfl) (by kernel_rfl) (by kernel_rfl) hle hfin hg he
theorem wp_p {a b t : Bool} {l m g : List Nat} {q : Int}
    (h1 : Den PP 173 [(ZS a l), (ZS b m)] [(ZS a l), (ZS b m)] (ZS t g))
    (h2 : Den PP 79 [(ZS t g)] [(ZS t g)] (num .i64 q)) :
    Goes E130 B130 [(0, (ZS a l)), (1, (ZS b m))] .ret [(4, (num .i64 q))] :=
  pathG [.r [] [0, 1, 2, 3, 4], .r [.c [(ZS a l), (ZS b m)] [(ZS a l), (ZS b m)] (ZS t g), .c [(ZS t g)] [(ZS t g)] (num .i64 q)] [0, 1, 2, 3, 4]] ((cc (er a) (cc (fq l.length 1 (wf l)) (cc (er b) (cc (fq m.length 1 (wf m)) (cc h1 (cc (er t) (cc (fq g.length 1 (wf g)) (cc h2 (cc (er q) nn)))))))))) (by kernel_rfl)
theorem whole_cmp (a b : Bool) (l m : List Nat) (hl : Wd l) (hm : Wd m) (ll : l.length ≤ 1073741824) (lm : m.length ≤ 1073741824) :
    Den PP 130 [ZS a l, ZS b m] [ZS a l, ZS b m] (num .i64 (zv a l - zv b m).sign) := by
  refine D130 (gout := [(4, num .i64 (zv a l - zv b m).sign)]) (e := .ret) ?_ (by first | exact .inr rfl | exact .inl rfl) (by kernel_rfl) (by kernel_rfl)

  have hs := whole_sub a b l m hl hm ll lm
  have hg := whole_sign (decide (zv a l - zv b m < 0)) (wd (zv a l - zv b m).natAbs) (wd_Wd _) (by
    have h1 := zv_abs a l
    have h2 := zv_abs b m
    have := len_sum (K := 1073741824) hl hm ll lm (z := (zv a l - zv b m).natAbs) (by omega)
    omega)
  rw [zv_wd] at hg
  exact wp_p hs hg
end Go.X
namespace Go.X
open Go Go.Proofs
/-- the value of a fraction -/
def fv (a : Fq) : Rat := mkRat (zv a.neg a.n) (val a.d)
/-- the right fraction of a value -/
def rq (q : Rat) : Fq := ⟨decide (q.num < 0), wd q.num.natAbs, wd q.den⟩
theorem fv_rq (q : Rat) : fv (rq q) = q := by
  unfold fv rq; simp only [zv_wd, val_wd]; exact Rat.mkRat_self q
/-- fractions of words, of at most so many -/
structure Ok (K : Nat) (a : Fq) : Prop where
  wn : Wd a.n
  wd : Wd a.d
  ln : a.n.length ≤ K
  ld : a.d.length ≤ K
theorem Ok.mono {K L : Nat} {a : Fq} (h : Ok K a) (hk : K ≤ L) : Ok L a := ⟨h.wn, h.wd, Nat.le_trans h.ln hk, Nat.le_trans h.ld hk⟩
/-- how many bits a value has -/
def qs (q : Rat) : Nat := nb q.num.natAbs + nb q.den
theorem wd_len_nb (n : Nat) : (wd n).length ≤ nb n := by
  refine wd_len_le ?_
  refine Nat.lt_of_lt_of_le (lt_nb n) ?_
  rw [show (4294967296 : Nat) = 2 ^ 32 by rfl, ← Nat.pow_mul]
  exact Nat.pow_le_pow_right (by omega) (by omega)
theorem ok_rq {q : Rat} {K : Nat} (h : qs q ≤ K) : Ok K (rq q) := by
  unfold qs at h
  exact ⟨wd_Wd _, wd_Wd _, Nat.le_trans (wd_len_nb _) (by omega), Nat.le_trans (wd_len_nb _) (by omega)⟩
theorem wd_mul_len {l m : Nat} {a b : Nat} (h1 : (wd l).length ≤ a) (h2 : (wd m).length ≤ b) : (wd (l * m)).length ≤ a + b := by
  refine wd_len_le ?_
  rw [Nat.pow_add]
  exact Nat.mul_lt_mul'' (Nat.lt_of_lt_of_le (wd_len_lt l) (Nat.pow_le_pow_right (by omega) h1)) (Nat.lt_of_lt_of_le (wd_len_lt m) (Nat.pow_le_pow_right (by omega) h2))
theorem wd_add_len {x y : Int} {a : Nat} (h1 : (wd x.natAbs).length ≤ a) (h2 : (wd y.natAbs).length ≤ a) : (wd (x + y).natAbs).length ≤ a + 1 := by
  refine wd_len_le ?_
  have e1 := Nat.lt_of_lt_of_le (wd_len_lt x.natAbs) (Nat.pow_le_pow_right (by omega) h1)
  have e2 := Nat.lt_of_lt_of_le (wd_len_lt y.natAbs) (Nat.pow_le_pow_right (by omega) h2)
  rw [Bsucc]
  omega
theorem wd_sub_len {x y : Int} {a : Nat} (h1 : (wd x.natAbs).length ≤ a) (h2 : (wd y.natAbs).length ≤ a) : (wd (x - y).natAbs).length ≤ a + 1 := by
  rw [Int.sub_eq_add_neg]
  exact wd_add_len h1 (by rw [Int.natAbs_neg]; exact h2)
noncomputable def B113 : Code := codeOf Tryz.f113
noncomputable def E113 : Env := EV PP 21 []
theorem D113 {args outs : List S} {gout : List (Nat × S)} {e : Fin} {res : S} (hg : Goes E113 B113 (entry 0 args) e gout) (he : e = .normal ∨ e = .ret) (hle : Nat.ble args.length 21 = true)
    (hfin : finE (tabOf PP) gout Tryz.f113.results.toList args [] = some (outs, res)) : Den PP 113 args outs res :=
  den_tab (fn := Tryz.f113) (c := B113) (by kernel_rfl) (by kernel_rfl) (by kernel_rfl) (by kernel_rfl) hle hfin hg he
theorem fc_p {a t : Bool} {n d g x y : List Nat}  
    (h1 : Den PP 163 [(W n), (W d)] [(W n), (W d)] (.tup [wc x, wc y]))
    (h2 : Den PP 164 [(ZS a x)] [(ZS a x)] (ZS t g)) :
    Goes E113 B113 [(0, (ZS a n)), (1, (W d))] .ret [(4, (BX 60 (FS ⟨t, g, y⟩)))] :=
  pathG [.r [] [0, 1, 2, 4], .r [.c [(W n), (W d)] [(W n), (W d)] (.tup [wc x, wc y])] [0, 1, 2, 4, 5, 6], .r [.c [(ZS a x)] [(ZS a x)] (ZS t g)] [0, 1, 2, 4, 5, 6]] ((cc (fq n.length 1 (wf n)) (cc (fq d.length 1 (wf d)) (cc h1 (cc (er a) (cc (fq x.length 1 (wf x)) (cc h2 (cc (er t) (cc (fq g.length 1 (wf g)) (cc (fq y.length 1 (wf y)) nn)))))))))) (by kernel_rfl)

theorem Int.sign_mul_natAbs_div (b : Bool) (n g : Nat) (hg : g ∣ n) : (if b then -((n / g : Nat) : Int) else ((n / g : Nat) : Int)) = (if b then -(n : Int) else n) / (g : Int) := by
  cases b
  · simp
  · simp only [if_true]
    rw [Int.neg_ediv_of_dvd (Int.ofNat_dvd.2 hg)]; simp
theorem frac_cancel (b : Bool) (n d : List Nat) (hn : Wd n) (hd : Wd d) (ln : n.length ≤ 536870912) (ld : d.length ≤ 536870912) (h0 : val d ≠ 0) :
    Den PP 113 [ZS b n, W d] [ZS b n, W d] (FS (rq (mkRat (zv b n) (val d)))) := by
  have hc := common_cancel n d hn hd ln ld
  have hw := whole_norm b (wd (val n / Nat.gcd (val n) (val d))) (wd_Wd _) (Nat.le_trans (wd_mono (Nat.div_le_self _ _)) (Nat.le_trans (wd_len_of hn) (by omega)))
  have e1 : zv b (wd (val n / Nat.gcd (val n) (val d))) = (mkRat (zv b n) (val d)).num := by
    rw [Rat.num_mkRat, if_neg h0, zv_abs, Nat.gcd_comm]
    unfold zv
    rw [val_wd, Int.sign_mul_natAbs_div _ _ _ (Nat.gcd_dvd_right _ _)]
  have e2 : val d / Nat.gcd (val n) (val d) = (mkRat (zv b n) (val d)).den := by
    rw [Rat.den_mkRat, if_neg h0, zv_abs, Nat.gcd_comm]
  rw [e1] at hw
  rw [e2] at hc
  refine D113 (gout := [(4, BX 60 (FS (rq (mkRat (zv b n) (val d)))))]) (e := .ret) ?_ (.inr rfl) (by kernel_rfl) (by kernel_rfl)
  exact fc_p hc hw
/-- a fraction's numbers, the lower one not 0 -/
def Fq.b' (a : Fq) : Bool := if val a.d = 0 then false else a.neg
def Fq.n' (a : Fq) : List Nat := if val a.d = 0 then [] else a.n
def Fq.d' (a : Fq) : List Nat := if val a.d = 0 then wd 1 else a.d
theorem wd1 : wd 1 = [1] := by rw [wd_pos (by omega)]; simp [wd_zero]
theorem d'_ne (a : Fq) : val a.d' ≠ 0 := by
  unfold Fq.d'; split
  · rw [val_wd]; omega
  · assumption
theorem fv' (a : Fq) : fv a = mkRat (zv a.b' a.n') (val a.d') := by
  unfold fv Fq.b' Fq.n' Fq.d'
  split
  · rename_i h; rw [h, Rat.mkRat_zero]; simp [zv, val]
  · rfl
theorem Ok.n' {K : Nat} {a : Fq} (h : Ok K a) : Wd a.n' ∧ a.n'.length ≤ K := by
  unfold Fq.n'; split
  · exact ⟨fun x hx => (by cases hx), by simp⟩
  · exact ⟨h.wn, h.ln⟩
theorem Ok.d' {K : Nat} {a : Fq} (h : Ok K a) (hk : 1 ≤ K) : Wd a.d' ∧ a.d'.length ≤ K := by
  unfold Fq.d'; split
  · exact ⟨wd_Wd _, by rw [wd1]; simp; omega⟩
  · exact ⟨h.wd, h.ld⟩
noncomputable def B78 : Code := codeOf Tryz.f78
noncomputable def E78 : Env := EV PP 13 []
theorem D78 {args outs : List S} {gout : List (Nat × S)} {e : Fin} {res : S} (hg : Goes E78 B78 (entry 0 args) e gout) (he : e = .normal ∨ e = .ret) (hle : Nat.ble args.length 13 = true)
    (hfin : finE (tabOf PP) gout Tryz.f78.results.toList args [] = some (outs, res)) : Den PP 78 args outs res :=
  den_tab (fn := Tryz.f78) (c := B78) (by kernel_rfl) (by kernel_rfl) (by kernel_rfl) (by kernel_rfl) hle hfin hg he
theorem fp_0  {r : List Nat} {f : Fq} 
    (h1 : Den PP 128 [(W f.d)] [(W f.d)] (bl true))
    (h2 : Den PP 77 [(num .u64 ((1 : Nat) : Int))] [(num .u64 ((1 : Nat) : Int))] (W r))
    (h3 : ([] : List Nat).length = 0) :
    Goes E78 B78 [(0, (FS f))] .ret [(2, (BX 58 (ZS false ([] : List Nat)))), (3, (W r))] :=
  pathG [.r [] [0, 1, 2, 3], .r [.c [(W f.d)] [(W f.d)] (bl true)] [0, 1, 2, 3, 6], .t true, .r [.c [(num .u64 ((1 : Nat) : Int))] [(num .u64 ((1 : Nat) : Int))] (W r)] [0, 1, 2, 3, 6]] ((cc (fq f.d.length 1 (wf f.d)) (cc h1 (cc (er true) (cc (er (1:Int)) (cc h2 (cc (er false) (cc h3 (cc (fq r.length 1 (wf r)) nn))))))))) (by kernel_rfl)
theorem fp_1   {f : Fq} 
    (h1 : Den PP 128 [(W f.d)] [(W f.d)] (bl false)) :
    Goes E78 B78 [(0, (FS f))] .ret [(2, (BX 58 (ZS f.neg f.n))), (3, (W f.d))] :=
  pathG [.r [] [0, 1, 2, 3], .r [.c [(W f.d)] [(W f.d)] (bl false)] [0, 1, 2, 3, 6], .t false, .r [] [0, 1, 2, 3, 6] [0, 1, 3, 4, 2, 5]] ((cc (fq f.d.length 1 (wf f.d)) (cc h1 (cc (er false) (cc (er f.neg) (cc (fq f.n.length 1 (wf f.n)) (cc (fq f.d.length 1 (wf f.d)) nn))))))) (by kernel_rfl)
theorem frac_parts (f : Fq) (h : Ok 4294967296 f) :
    Den PP 78 [FS f] [FS f] (.tup [zsc f.b' f.n', wc f.d']) := by
  refine D78 (gout := [(2, BX 58 (ZS f.b' f.n')), (3, W f.d')]) (e := .ret) ?_ (by first | exact .inr rfl | exact .inl rfl) (by kernel_rfl) (by kernel_rfl)

  have hz := nat_zero f.d h.ld
  rw [trimL_eq h.wd] at hz
  unfold Fq.b' Fq.n' Fq.d'
  by_cases h0 : val f.d = 0
  · rw [h0, wd_zero] at hz
    rw [if_pos h0, if_pos h0, if_pos h0]
    exact fp_0 hz (nat_ofw 1 (by omega)) rfl
  · have he : (wd (val f.d)).isEmpty = false := by
      have := wd_pos_len h0
      cases hh : wd (val f.d) with
      | nil => rw [hh] at this; simp at this
      | cons => rfl
    rw [he] at hz
    rw [if_neg h0, if_neg h0, if_neg h0]
    exact fp_1 hz
noncomputable def B35 : Code := codeOf Tryz.f35
noncomputable def E35 : Env := EV PP 7 []
theorem D35 {args outs : List S} {gout : List (Nat × S)} {e : Fin} {res : S} (hg : Goes E35 B35 (entry 0 args) e gout) (he : e = .normal ∨ e = .ret) (hle : Nat.ble args.length 7 = true)
    (hfin : finE (tabOf PP) gout Tryz.f35.results.toList args [] = some (outs, res)) : Den PP 35 args outs res :=
  den_tab (fn := Tryz.f35) (c := B35) (by kernel_rfl) (by kernel_rfl) (by kernel_rfl) (by kernel_rfl) hle hfin hg he
theorem fo_p {t : Bool} {g r : List Nat}  {q : Int}
    (h1 : Den PP 76 [(num .i64 q)] [(num .i64 q)] (ZS t g))
    (h2 : Den PP 77 [(num .u64 ((1 : Nat) : Int))] [(num .u64 ((1 : Nat) : Int))] (W r)) :
    Goes E35 B35 [(0, (num .i64 q))] .ret [(2, (BX 60 (FS ⟨t, g, r⟩)))] :=
  pathG [.r [] [0, 2], .r [.c [(num .i64 q)] [(num .i64 q)] (ZS t g), .c [(num .u64 ((1 : Nat) : Int))] [(num .u64 ((1 : Nat) : Int))] (W r)] [0, 2]] ((cc (er q) (cc h1 (cc (er (1:Int)) (cc h2 (cc (er t) (cc (fq g.length 1 (wf g)) (cc (fq r.length 1 (wf r)) nn)))))))) (by kernel_rfl)
theorem frac_of (c : Int) (h1 : -9223372036854775808 ≤ c) (h2 : c ≤ 9223372036854775807) :
    Den PP 35 [num .i64 c] [num .i64 c] (FS (rq (c : Rat))) := by
  refine D35 (gout := [(2, BX 60 (FS (rq (c : Rat))))]) (e := .ret) ?_ (by first | exact .inr rfl | exact .inl rfl) (by kernel_rfl) (by kernel_rfl)

  have hw := whole_of c h1 h2
  have ho := nat_ofw 1 (by omega)
  exact fo_p hw ho
noncomputable def B112 : Code := codeOf Tryz.f112
noncomputable def E112 : Env := EV PP 8 []
theorem D112 {args outs : List S} {gout : List (Nat × S)} {e : Fin} {res : S} (hg : Goes E112 B112 (entry 0 args) e gout) (he : e = .normal ∨ e = .ret) (hle : Nat.ble args.length 8 = true)
    (hfin : finE (tabOf PP) gout Tryz.f112.results.toList args [] = some (outs, res)) : Den PP 112 args outs res :=
  den_tab (fn := Tryz.f112) (c := B112) (by kernel_rfl) (by kernel_rfl) (by kernel_rfl) (by kernel_rfl) hle hfin hg he
theorem fn_p {a t : Bool} {n d g y : List Nat} {f : Fq} 
    (h1 : Den PP 78 [(FS f)] [(FS f)] (.tup [zsc a n, wc d]))
    (h2 : Den PP 113 [(ZS a n), (W d)] [(ZS a n), (W d)] (FS ⟨t, g, y⟩)) :
    Goes E112 B112 [(0, (FS f))] .ret [(2, (BX 60 (FS ⟨t, g, y⟩)))] :=
  pathG [.r [] [0, 1, 2], .r [.c [(FS f)] [(FS f)] (.tup [zsc a n, wc d]), .c [(ZS a n), (W d)] [(ZS a n), (W d)] (FS ⟨t, g, y⟩)] [0, 1, 2]] ((cc (er f.neg) (cc (fq f.n.length 1 (wf f.n)) (cc (fq f.d.length 1 (wf f.d)) (cc h1 (cc (er a) (cc (fq n.length 1 (wf n)) (cc (fq d.length 1 (wf d)) (cc h2 (cc (er t) (cc (fq g.length 1 (wf g)) (cc (fq y.length 1 (wf y)) nn)))))))))))) (by kernel_rfl)
theorem frac_norm (f : Fq) (h : Ok 67108864 f) :
    Den PP 112 [FS f] [FS f] (FS (rq (fv f))) := by
  refine D112 (gout := [(2, BX 60 (FS (rq (fv f))))]) (e := .ret) ?_ (by first | exact .inr rfl | exact .inl rfl) (by kernel_rfl) (by kernel_rfl)

  have hn := h.n'
  have hd := h.d' (by omega)
  have hc := frac_cancel f.b' f.n' f.d' hn.1 hd.1 (by omega) (by omega) (d'_ne f)
  rw [← fv'] at hc
  exact fn_p (frac_parts f (h.mono (by omega))) hc
noncomputable def B115 : Code := codeOf Tryz.f115
noncomputable def E115 : Env := EV PP 9 []
theorem D115 {args outs : List S} {gout : List (Nat × S)} {e : Fin} {res : S} (hg : Goes E115 B115 (entry 0 args) e gout) (he : e = .normal ∨ e = .ret) (hle : Nat.ble args.length 9 = true)
    (hfin : finE (tabOf PP) gout Tryz.f115.results.toList args [] = some (outs, res)) : Den PP 115 args outs res :=
  den_tab (fn := Tryz.f115) (c := B115) (by kernel_rfl) (by kernel_rfl) (by kernel_rfl) (by kernel_rfl) hle hfin hg he
theorem fx_p {a t : Bool} {n d g : List Nat}  
    (h1 : Den PP 129 [(ZS a n), (ZS false d)] [(ZS a n), (ZS false d)] (ZS t g)) :
    Goes E115 B115 [(0, (ZS a n)), (1, (W d))] .ret [(4, (BX 58 (ZS t g)))] :=
  pathG [.r [] [0, 1, 2, 4], .r [.c [(ZS a n), (ZS false d)] [(ZS a n), (ZS false d)] (ZS t g)] [0, 1, 2, 4]] ((cc (er a) (cc (fq n.length 1 (wf n)) (cc (er false) (cc (fq d.length 1 (wf d)) (cc h1 (cc (er t) (cc (fq g.length 1 (wf g)) nn)))))))) (by kernel_rfl)
theorem frac_cross (b : Bool) (n d : List Nat) (hn : Wd n) (hd : Wd d) (ln : n.length ≤ 1073741824) (ld : d.length ≤ 1073741824) :
    Den PP 115 [ZS b n, W d] [ZS b n, W d] (ZI (zv b n * (val d : Int))) := by
  refine D115 (gout := [(4, BX 58 (ZI (zv b n * (val d : Int))))]) (e := .ret) ?_ (by first | exact .inr rfl | exact .inl rfl) (by kernel_rfl) (by kernel_rfl)

  have hm := whole_mul b false n d hn hd ln ld
  exact fx_p hm
noncomputable def B68 : Code := codeOf Tryz.f68
noncomputable def E68 : Env := EV PP 30 []
theorem D68 {args outs : List S} {gout : List (Nat × S)} {e : Fin} {res : S} (hg : Goes E68 B68 (entry 0 args) e gout) (he : e = .normal ∨ e = .ret) (hle : Nat.ble args.length 30 = true)
    (hfin : finE (tabOf PP) gout Tryz.f68.results.toList args [] = some (outs, res)) : Den PP 68 args outs res :=
  den_tab (fn := Tryz.f68) (c := B68) (by kernel_rfl) (by kernel_rfl) (by kernel_rfl) (by kernel_rfl) hle hfin hg he
theorem fadd_p {a b t s c : Bool} {n m d e g h x y r w : List Nat} {f k : Fq}  {p : Bool}
    (h1 : Den PP 78 [(FS f)] [(FS f)] (.tup [zsc a n, wc d]))
    (h2 : Den PP 78 [(FS k)] [(FS k)] (.tup [zsc b m, wc e]))
    (h3 : Den PP 115 [(ZS a n), (W e)] [(ZS a n), (W e)] (ZS t g))
    (h4 : Den PP 115 [(ZS b m), (W d)] [(ZS b m), (W d)] (ZS s h))
    (h5 : Den PP 114 [(ZS t g), (ZS s h)] [(ZS t g), (ZS s h)] (ZS c x))
    (h6 : Den PP 116 [(W d), (W e)] [(W d), (W e)] (W w))
    (h7 : Den PP 113 [(ZS c x), (W w)] [(ZS c x), (W w)] (FS ⟨p, r, y⟩)) :
    Goes E68 B68 [(0, (FS f)), (1, (FS k))] .ret [(4, (BX 60 (FS ⟨p, r, y⟩)))] :=
  pathG [.r [] [0, 1, 2, 3, 4], .r [.c [(FS f)] [(FS f)] (.tup [zsc a n, wc d])] [0, 1, 2, 3, 4, 5, 6], .r [.c [(FS k)] [(FS k)] (.tup [zsc b m, wc e])] [0, 1, 2, 3, 4, 5, 6, 7, 8], .r [.c [(ZS a n), (W e)] [(ZS a n), (W e)] (ZS t g), .c [(ZS b m), (W d)] [(ZS b m), (W d)] (ZS s h), .c [(ZS t g), (ZS s h)] [(ZS t g), (ZS s h)] (ZS c x), .c [(W d), (W e)] [(W d), (W e)] (W w), .c [(ZS c x), (W w)] [(ZS c x), (W w)] (FS ⟨p, r, y⟩)] [0, 1, 2, 3, 4, 5, 6, 7, 8]] ((cc (er f.neg) (cc (fq f.n.length 1 (wf f.n)) (cc (fq f.d.length 1 (wf f.d)) (cc h1 (cc (er k.neg) (cc (fq k.n.length 1 (wf k.n)) (cc (fq k.d.length 1 (wf k.d)) (cc h2 (cc (er a) (cc (fq n.length 1 (wf n)) (cc (fq e.length 1 (wf e)) (cc h3 (cc (er b) (cc (fq m.length 1 (wf m)) (cc (fq d.length 1 (wf d)) (cc h4 (cc (er t) (cc (fq g.length 1 (wf g)) (cc (er s) (cc (fq h.length 1 (wf h)) (cc h5 (cc (fq d.length 1 (wf d)) (cc (fq e.length 1 (wf e)) (cc h6 (cc (er c) (cc (fq x.length 1 (wf x)) (cc (fq w.length 1 (wf w)) (cc h7 (cc (er p) (cc (fq r.length 1 (wf r)) (cc (fq y.length 1 (wf y)) nn)))))))))))))))))))))))))))))))) (by kernel_rfl)
theorem frac_add (f k : Fq) (hf : Ok 67108864 f) (hk : Ok 67108864 k) :
    Den PP 68 [FS f, FS k] [FS f, FS k] (FS (rq (fv f + fv k))) := by
  refine D68 (gout := [(4, BX 60 (FS (rq (fv f + fv k))))]) (e := .ret) ?_ (by first | exact .inr rfl | exact .inl rfl) (by kernel_rfl) (by kernel_rfl)

  have hn := hf.n'
  have hd := hf.d' (by omega)
  have hm := hk.n'
  have he := hk.d' (by omega)
  have x1 := frac_cross f.b' f.n' k.d' hn.1 he.1 (by omega) (by omega)
  have x2 := frac_cross k.b' k.n' f.d' hm.1 hd.1 (by omega) (by omega)
  have l1 : (wd (zv f.b' f.n' * (val k.d' : Int)).natAbs).length ≤ 134217728 := by
    rw [Int.natAbs_mul, zv_abs, Int.natAbs_natCast]
    exact wd_mul_len (Nat.le_trans (wd_len_of hn.1) hn.2) (Nat.le_trans (wd_len_of he.1) he.2)
  have l2 : (wd (zv k.b' k.n' * (val f.d' : Int)).natAbs).length ≤ 134217728 := by
    rw [Int.natAbs_mul, zv_abs, Int.natAbs_natCast]
    exact wd_mul_len (Nat.le_trans (wd_len_of hm.1) hm.2) (Nat.le_trans (wd_len_of hd.1) hd.2)
  have ad := whole_add (decide (zv f.b' f.n' * (val k.d' : Int) < 0)) (decide (zv k.b' k.n' * (val f.d' : Int) < 0)) _ _ (wd_Wd (zv f.b' f.n' * (val k.d' : Int)).natAbs) (wd_Wd (zv k.b' k.n' * (val f.d' : Int)).natAbs) (by omega) (by omega)
  rw [zv_wd, zv_wd] at ad
  have hp := (prod_mul f.d' k.d' hd.1 he.1 (by omega) (by omega)).plain
  have l3 := wd_add_len l1 l2
  have l4 : (wd (val f.d' * val k.d')).length ≤ 134217728 := wd_mul_len (Nat.le_trans (wd_len_of hd.1) hd.2) (Nat.le_trans (wd_len_of he.1) he.2)
  have hc := frac_cancel (decide (zv f.b' f.n' * (val k.d' : Int) + zv k.b' k.n' * (val f.d' : Int) < 0)) _ _ (wd_Wd (zv f.b' f.n' * (val k.d' : Int) + zv k.b' k.n' * (val f.d' : Int)).natAbs) (wd_Wd (val f.d' * val k.d')) (by omega) (by omega) (by
    rw [val_wd]; exact Nat.mul_ne_zero (d'_ne f) (d'_ne k))
  rw [zv_wd, val_wd] at hc
  have hq : fv f + fv k = mkRat (zv f.b' f.n' * (val k.d' : Int) + zv k.b' k.n' * (val f.d' : Int)) (val f.d' * val k.d') := by
    rw [fv' f, fv' k]; rw [Rat.mkRat_add_mkRat _ _ (d'_ne f) (d'_ne k)]
  rw [hq]
  exact fadd_p (frac_parts f (hf.mono (by omega))) (frac_parts k (hk.mono (by omega))) x1 x2 ad hp hc
noncomputable def B334 : Code := codeOf Tryz.f334
noncomputable def E334 : Env := EV PP 30 []
theorem D334 {args outs : List S} {gout : List (Nat × S)} {e : Fin} {res : S} (hg : Goes E334 B334 (entry 0 args) e gout) (he : e = .normal ∨ e = .ret) (hle : Nat.ble args.length 30 = true)
    (hfin : finE (tabOf PP) gout Tryz.f334.results.toList args [] = some (outs, res)) : Den PP 334 args outs res :=
  den_tab (fn := Tryz.f334) (c := B334) (by kernel_rfl) (by kernel_rfl) (by kernel_rfl) (by kernel_rfl) hle hfin hg he
theorem fsub_p {a b t s c : Bool} {n m d e g h x y r w : List Nat} {f k : Fq}  {p : Bool}
    (h1 : Den PP 78 [(FS f)] [(FS f)] (.tup [zsc a n, wc d]))
    (h2 : Den PP 78 [(FS k)] [(FS k)] (.tup [zsc b m, wc e]))
    (h3 : Den PP 115 [(ZS a n), (W e)] [(ZS a n), (W e)] (ZS t g))
    (h4 : Den PP 115 [(ZS b m), (W d)] [(ZS b m), (W d)] (ZS s h))
    (h5 : Den PP 173 [(ZS t g), (ZS s h)] [(ZS t g), (ZS s h)] (ZS c x))
    (h6 : Den PP 116 [(W d), (W e)] [(W d), (W e)] (W w))
    (h7 : Den PP 113 [(ZS c x), (W w)] [(ZS c x), (W w)] (FS ⟨p, r, y⟩)) :
    Goes E334 B334 [(0, (FS f)), (1, (FS k))] .ret [(4, (BX 60 (FS ⟨p, r, y⟩)))] :=
  pathG [.r [] [0, 1, 2, 3, 4], .r [.c [(FS f)] [(FS f)] (.tup [zsc a n, wc d])] [0, 1, 2, 3, 4, 5, 6], .r [.c [(FS k)] [(FS k)] (.tup [zsc b m, wc e])] [0, 1, 2, 3, 4, 5, 6, 7, 8], .r [.c [(ZS a n), (W e)] [(ZS a n), (W e)] (ZS t g), .c [(ZS b m), (W d)] [(ZS b m), (W d)] (ZS s h), .c [(ZS t g), (ZS s h)] [(ZS t g), (ZS s h)] (ZS c x), .c [(W d), (W e)] [(W d), (W e)] (W w), .c [(ZS c x), (W w)] [(ZS c x), (W w)] (FS ⟨p, r, y⟩)] [0, 1, 2, 3, 4, 5, 6, 7, 8]] ((cc (er f.neg) (cc (fq f.n.length 1 (wf f.n)) (cc (fq f.d.length 1 (wf f.d)) (cc h1 (cc (er k.neg) (cc (fq k.n.length 1 (wf k.n)) (cc (fq k.d.length 1 (wf k.d)) (cc h2 (cc (er a) (cc (fq n.length 1 (wf n)) (cc (fq e.length 1 (wf e)) (cc h3 (cc (er b) (cc (fq m.length 1 (wf m)) (cc (fq d.length 1 (wf d)) (cc h4 (cc (er t) (cc (fq g.length 1 (wf g)) (cc (er s) (cc (fq h.length 1 (wf h)) (cc h5 (cc (fq d.length 1 (wf d)) (cc (fq e.length 1 (wf e)) (cc h6 (cc (er c) (cc (fq x.length 1 (wf x)) (cc (fq w.length 1 (wf w)) (cc h7 (cc (er p) (cc (fq r.length 1 (wf r)) (cc (fq y.length 1 (wf y)) nn)))))))))))))))))))))))))))))))) (by kernel_rfl)
theorem frac_sub (f k : Fq) (hf : Ok 67108864 f) (hk : Ok 67108864 k) :
    Den PP 334 [FS f, FS k] [FS f, FS k] (FS (rq (fv f - fv k))) := by
  refine D334 (gout := [(4, BX 60 (FS (rq (fv f - fv k))))]) (e := .ret) ?_ (by first | exact .inr rfl | exact .inl rfl) (by kernel_rfl) (by kernel_rfl)

  have hn := hf.n'
  have hd := hf.d' (by omega)
  have hm := hk.n'
  have he := hk.d' (by omega)
  have x1 := frac_cross f.b' f.n' k.d' hn.1 he.1 (by omega) (by omega)
  have x2 := frac_cross k.b' k.n' f.d' hm.1 hd.1 (by omega) (by omega)
  have l1 : (wd (zv f.b' f.n' * (val k.d' : Int)).natAbs).length ≤ 134217728 := by
    rw [Int.natAbs_mul, zv_abs, Int.natAbs_natCast]
    exact wd_mul_len (Nat.le_trans (wd_len_of hn.1) hn.2) (Nat.le_trans (wd_len_of he.1) he.2)
  have l2 : (wd (zv k.b' k.n' * (val f.d' : Int)).natAbs).length ≤ 134217728 := by
    rw [Int.natAbs_mul, zv_abs, Int.natAbs_natCast]
    exact wd_mul_len (Nat.le_trans (wd_len_of hm.1) hm.2) (Nat.le_trans (wd_len_of hd.1) hd.2)
  have ad := whole_sub (decide (zv f.b' f.n' * (val k.d' : Int) < 0)) (decide (zv k.b' k.n' * (val f.d' : Int) < 0)) _ _ (wd_Wd (zv f.b' f.n' * (val k.d' : Int)).natAbs) (wd_Wd (zv k.b' k.n' * (val f.d' : Int)).natAbs) (by omega) (by omega)
  rw [zv_wd, zv_wd] at ad
  have hp := (prod_mul f.d' k.d' hd.1 he.1 (by omega) (by omega)).plain
  have l3 := wd_sub_len l1 l2
  have l4 : (wd (val f.d' * val k.d')).length ≤ 134217728 := wd_mul_len (Nat.le_trans (wd_len_of hd.1) hd.2) (Nat.le_trans (wd_len_of he.1) he.2)
  have hc := frac_cancel (decide (zv f.b' f.n' * (val k.d' : Int) - zv k.b' k.n' * (val f.d' : Int) < 0)) _ _ (wd_Wd (zv f.b' f.n' * (val k.d' : Int) - zv k.b' k.n' * (val f.d' : Int)).natAbs) (wd_Wd (val f.d' * val k.d')) (by omega) (by omega) (by
    rw [val_wd]; exact Nat.mul_ne_zero (d'_ne f) (d'_ne k))
  rw [zv_wd, val_wd] at hc
  have hq : fv f - fv k = mkRat (zv f.b' f.n' * (val k.d' : Int) - zv k.b' k.n' * (val f.d' : Int)) (val f.d' * val k.d') := by
    rw [fv' f, fv' k]; rw [Rat.sub_eq_add_neg, Rat.neg_mkRat, Rat.mkRat_add_mkRat _ _ (d'_ne f) (d'_ne k), Int.neg_mul, Int.sub_eq_add_neg]
  rw [hq]
  exact fsub_p (frac_parts f (hf.mono (by omega))) (frac_parts k (hk.mono (by omega))) x1 x2 ad hp hc
noncomputable def B82 : Code := codeOf Tryz.f82
noncomputable def E82 : Env := EV PP 26 []
theorem D82 {args outs : List S} {gout : List (Nat × S)} {e : Fin} {res : S} (hg : Goes E82 B82 (entry 0 args) e gout) (he : e = .normal ∨ e = .ret) (hle : Nat.ble args.length 26 = true)
    (hfin : finE (tabOf PP) gout Tryz.f82.results.toList args [] = some (outs, res)) : Den PP 82 args outs res :=
  den_tab (fn := Tryz.f82) (c := B82) (by kernel_rfl) (by kernel_rfl) (by kernel_rfl) (by kernel_rfl) hle hfin hg he
theorem fmul_p {a b t c : Bool} {n m d e g y r w : List Nat} {f k : Fq} 
    (h1 : Den PP 78 [(FS f)] [(FS f)] (.tup [zsc a n, wc d]))
    (h2 : Den PP 78 [(FS k)] [(FS k)] (.tup [zsc b m, wc e]))
    (h3 : Den PP 129 [(ZS a n), (ZS b m)] [(ZS a n), (ZS b m)] (ZS t g))
    (h4 : Den PP 116 [(W d), (W e)] [(W d), (W e)] (W w))
    (h5 : Den PP 113 [(ZS t g), (W w)] [(ZS t g), (W w)] (FS ⟨c, r, y⟩)) :
    Goes E82 B82 [(0, (FS f)), (1, (FS k))] .ret [(4, (BX 60 (FS ⟨c, r, y⟩)))] :=
  pathG [.r [] [0, 1, 2, 3, 4], .r [.c [(FS f)] [(FS f)] (.tup [zsc a n, wc d])] [0, 1, 2, 3, 4, 5, 6], .r [.c [(FS k)] [(FS k)] (.tup [zsc b m, wc e])] [0, 1, 2, 3, 4, 5, 6, 7, 8], .r [.c [(ZS a n), (ZS b m)] [(ZS a n), (ZS b m)] (ZS t g), .c [(W d), (W e)] [(W d), (W e)] (W w), .c [(ZS t g), (W w)] [(ZS t g), (W w)] (FS ⟨c, r, y⟩)] [0, 1, 2, 3, 4, 5, 6, 7, 8]] ((cc (er f.neg) (cc (fq f.n.length 1 (wf f.n)) (cc (fq f.d.length 1 (wf f.d)) (cc h1 (cc (er k.neg) (cc (fq k.n.length 1 (wf k.n)) (cc (fq k.d.length 1 (wf k.d)) (cc h2 (cc (er a) (cc (fq n.length 1 (wf n)) (cc (er b) (cc (fq m.length 1 (wf m)) (cc h3 (cc (fq d.length 1 (wf d)) (cc (fq e.length 1 (wf e)) (cc h4 (cc (er t) (cc (fq g.length 1 (wf g)) (cc (fq w.length 1 (wf w)) (cc h5 (cc (er c) (cc (fq r.length 1 (wf r)) (cc (fq y.length 1 (wf y)) nn)))))))))))))))))))))))) (by kernel_rfl)
theorem frac_mul (f k : Fq) (hf : Ok 67108864 f) (hk : Ok 67108864 k) :
    Den PP 82 [FS f, FS k] [FS f, FS k] (FS (rq (fv f * fv k))) := by
  refine D82 (gout := [(4, BX 60 (FS (rq (fv f * fv k))))]) (e := .ret) ?_ (by first | exact .inr rfl | exact .inl rfl) (by kernel_rfl) (by kernel_rfl)

  have hn := hf.n'
  have hd := hf.d' (by omega)
  have hm := hk.n'
  have he := hk.d' (by omega)
  have x1 := whole_mul f.b' k.b' f.n' k.n' hn.1 hm.1 (by omega) (by omega)
  have l1 : (wd (zv f.b' f.n' * zv k.b' k.n').natAbs).length ≤ 134217728 := by
    rw [Int.natAbs_mul, zv_abs, zv_abs]
    exact wd_mul_len (Nat.le_trans (wd_len_of hn.1) hn.2) (Nat.le_trans (wd_len_of hm.1) hm.2)
  have hp := (prod_mul f.d' k.d' hd.1 he.1 (by omega) (by omega)).plain
  have l4 : (wd (val f.d' * val k.d')).length ≤ 134217728 := wd_mul_len (Nat.le_trans (wd_len_of hd.1) hd.2) (Nat.le_trans (wd_len_of he.1) he.2)
  have hc := frac_cancel (decide (zv f.b' f.n' * zv k.b' k.n' < 0)) _ _ (wd_Wd (zv f.b' f.n' * zv k.b' k.n').natAbs) (wd_Wd (val f.d' * val k.d')) (by omega) (by omega) (by
    rw [val_wd]; exact Nat.mul_ne_zero (d'_ne f) (d'_ne k))
  rw [zv_wd, val_wd] at hc
  have hq : fv f * fv k = mkRat (zv f.b' f.n' * zv k.b' k.n') (val f.d' * val k.d') := by
    rw [fv' f, fv' k, Rat.mkRat_mul_mkRat]
  rw [hq]
  exact fmul_p (frac_parts f (hf.mono (by omega))) (frac_parts k (hk.mono (by omega))) x1 hp hc
end Go.X
