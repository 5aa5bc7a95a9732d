/- Part 27 of the proof of BackSums: Paths and contracts. How long the words of sums and products are. No conditions but those that each theorem names. -/
import Derived.Test.YthmecihkgdaffaaGreatDoorP26
namespace Go.X
open Go Go.Proofs
theorem Den.plainL {P : Program} {f : FuncId} {args outs : List S} {l : List Fq} (hd : Den P f args outs (FO l)) : Den P f args outs (FL l) := hd.frozen
noncomputable def B25 : Code := codeOf Tryz.f25
noncomputable def E25 : Env := EV PP 10 []
theorem D25 {args outs : List S} {gout : List (Nat × S)} {e : Fin} {res : S} (hg : Goes E25 B25 (entry 0 args) e gout) (he : e = .normal ∨ e = .ret) (hle : Nat.ble args.length 10 = true)
    (hfin : finE (tabOf PP) gout Tryz.f25.results.toList args [] = some (outs, res)) : Den PP 25 args outs res :=
  den_tab (fn := Tryz.f25) (c := B25) (by kernel_rfl) (by kernel_rfl) (by kernel_rfl) (by kernel_rfl) hle hfin hg he
theorem bz_p  {a b : List Fq}   {q j : Int}
    (h1 : Den PP 47 [(num .i64 q)] [(num .i64 q)] (FL a))
    (h2 : Den PP 47 [(num .i64 j)] [(num .i64 j)] (FL b)) :
    Goes E25 B25 [(0, (num .i64 q)), (1, (num .i64 j))] .ret [(4, (BX 43 (GS a b)))] :=
  pathG [.r [] [0, 1, 4], .r [.c [(num .i64 q)] [(num .i64 q)] (FL a), .c [(num .i64 j)] [(num .i64 j)] (FL b)] [0, 1, 4]] ((cc (er q) (cc h1 (cc (er j) (cc h2 (cc (fq a.length 3 (ff a)) (cc (fq b.length 3 (ff b)) nn))))))) (by kernel_rfl)
theorem back_zero (q j : Int) (N M : Nat) (hN : (N : Int) = min (max q 0) 300) (hM : (M : Int) = min (max j 0) 300) :
    Den PP 25 [num .i64 q, num .i64 j] [num .i64 q, num .i64 j] (GS (rqs (noughts N)) (rqs (noughts M))) := by
  refine D25 (gout := [(4, BX 43 (GS (rqs (noughts N)) (rqs (noughts M))))]) (e := .ret) ?_ (by first | exact .inr rfl | exact .inl rfl) (by kernel_rfl) (by kernel_rfl)

  exact bz_p (row_zero q N hN).plainL (row_zero j M hM).plainL
noncomputable def B23 : Code := codeOf Tryz.f23
noncomputable def E23 : Env := EV PP 38 []
theorem D23 {args outs : List S} {gout : List (Nat × S)} {e : Fin} {res : S} (hg : Goes E23 B23 (entry 0 args) e gout) (he : e = .normal ∨ e = .ret) (hle : Nat.ble args.length 38 = true)
    (hfin : finE (tabOf PP) gout Tryz.f23.results.toList args [] = some (outs, res)) : Den PP 23 args outs res :=
  den_tab (fn := Tryz.f23) (c := B23) (by kernel_rfl) (by kernel_rfl) (by kernel_rfl) (by kernel_rfl) hle hfin hg he
theorem ba_ok  {l m a b d e : List Fq}   
    (h1 : Den PP 22 [(FLL ([a, d]))] [(FLL ([a, d]))] (.tup [(false, [(.d (.sf 3 l.length (ff l)))]), (false, [(.d (.v (.bool true)))])]))
    (h2 : Den PP 22 [(FLL ([b, e]))] [(FLL ([b, e]))] (.tup [(false, [(.d (.sf 3 m.length (ff m)))]), (false, [(.d (.v (.bool true)))])]))
    (h3 : 2 = ([a, d]).length ∧ FEq 2 1 (rowF 1 [(.d (.sf 3 a.length (ff a))), (.d (.sf 3 d.length (ff d)))]) (fff ([a, d])))
    (h4 : 2 = ([b, e]).length ∧ FEq 2 1 (rowF 1 [(.d (.sf 3 b.length (ff b))), (.d (.sf 3 e.length (ff e)))]) (fff ([b, e]))) :
    Goes E23 B23 [(0, (GS a b)), (1, (GS d e))] .ret [(4, (BX 43 (GS l m))), (5, (bl true))] :=
  pathG [.r [] [0, 1, 2, 3, 4, 5], .r [.c [(FLL ([a, d]))] [(FLL ([a, d]))] (.tup [(false, [(.d (.sf 3 l.length (ff l)))]), (false, [(.d (.v (.bool true)))])])] [0, 1, 2, 3, 4, 5, 6, 7], .r [.c [(FLL ([b, e]))] [(FLL ([b, e]))] (.tup [(false, [(.d (.sf 3 m.length (ff m)))]), (false, [(.d (.v (.bool true)))])])] [0, 1, 2, 3, 4, 5, 6, 7, 8, 9], .r [.b false, .b false] [0, 1, 2, 3, 4, 5, 6, 7, 8, 9, 33], .t false, .r [] [0, 1, 2, 3, 4, 5, 6, 7, 8, 9, 33]] ((cc h3 (cc h1 (cc h4 (cc h2 (cc (bn (er true)) (cc (bn (er true)) (cc tt (cc (bf true (bn (er true)) (bn (er true))) (cc (fq l.length 3 (ff l)) (cc (fq m.length 3 (ff m)) (cc (er true) nn)))))))))))) (by kernel_rfl)
theorem ba_1 {t : Bool} {l m a b d e : List Fq}   
    (h1 : Den PP 22 [(FLL ([a, d]))] [(FLL ([a, d]))] (.tup [(false, [(.d (.sf 3 l.length (ff l)))]), (false, [(.d (.v (.bool false)))])]))
    (h2 : Den PP 22 [(FLL ([b, e]))] [(FLL ([b, e]))] (.tup [(false, [(.d (.sf 3 m.length (ff m)))]), (false, [(.d (.v (.bool t)))])]))
    (h3 : 2 = ([a, d]).length ∧ FEq 2 1 (rowF 1 [(.d (.sf 3 a.length (ff a))), (.d (.sf 3 d.length (ff d)))]) (fff ([a, d])))
    (h4 : 2 = ([b, e]).length ∧ FEq 2 1 (rowF 1 [(.d (.sf 3 b.length (ff b))), (.d (.sf 3 e.length (ff e)))]) (fff ([b, e])))
    (h5 : ([] : List Fq).length = 0) :
    Goes E23 B23 [(0, (GS a b)), (1, (GS d e))] .ret [(4, (BX 43 (GS ([] : List Fq) ([] : List Fq)))), (5, (bl false))] :=
  pathG [.r [] [0, 1, 2, 3, 4, 5], .r [.c [(FLL ([a, d]))] [(FLL ([a, d]))] (.tup [(false, [(.d (.sf 3 l.length (ff l)))]), (false, [(.d (.v (.bool false)))])])] [0, 1, 2, 3, 4, 5, 6, 7], .r [.c [(FLL ([b, e]))] [(FLL ([b, e]))] (.tup [(false, [(.d (.sf 3 m.length (ff m)))]), (false, [(.d (.v (.bool t)))])])] [0, 1, 2, 3, 4, 5, 6, 7, 8, 9], .r [.b true, .b true] [0, 1, 2, 3, 4, 5, 6, 7, 8, 9, 33], .t true, .r [] [0, 1, 2, 3, 4, 5, 6, 7, 8, 9, 33]] ((cc h3 (cc h1 (cc h4 (cc h2 (cc (bn (er false)) (cc (bn (er false)) (cc (bn (er false)) (cc (er true) (cc h5 (cc h5 (cc (er false) nn)))))))))))) (by kernel_rfl)
theorem ba_2  {l m a b d e : List Fq}   
    (h1 : Den PP 22 [(FLL ([a, d]))] [(FLL ([a, d]))] (.tup [(false, [(.d (.sf 3 l.length (ff l)))]), (false, [(.d (.v (.bool true)))])]))
    (h2 : Den PP 22 [(FLL ([b, e]))] [(FLL ([b, e]))] (.tup [(false, [(.d (.sf 3 m.length (ff m)))]), (false, [(.d (.v (.bool false)))])]))
    (h3 : 2 = ([a, d]).length ∧ FEq 2 1 (rowF 1 [(.d (.sf 3 a.length (ff a))), (.d (.sf 3 d.length (ff d)))]) (fff ([a, d])))
    (h4 : 2 = ([b, e]).length ∧ FEq 2 1 (rowF 1 [(.d (.sf 3 b.length (ff b))), (.d (.sf 3 e.length (ff e)))]) (fff ([b, e])))
    (h5 : ([] : List Fq).length = 0) :
    Goes E23 B23 [(0, (GS a b)), (1, (GS d e))] .ret [(4, (BX 43 (GS ([] : List Fq) ([] : List Fq)))), (5, (bl false))] :=
  pathG [.r [] [0, 1, 2, 3, 4, 5], .r [.c [(FLL ([a, d]))] [(FLL ([a, d]))] (.tup [(false, [(.d (.sf 3 l.length (ff l)))]), (false, [(.d (.v (.bool true)))])])] [0, 1, 2, 3, 4, 5, 6, 7], .r [.c [(FLL ([b, e]))] [(FLL ([b, e]))] (.tup [(false, [(.d (.sf 3 m.length (ff m)))]), (false, [(.d (.v (.bool false)))])])] [0, 1, 2, 3, 4, 5, 6, 7, 8, 9], .r [.b false, .b false] [0, 1, 2, 3, 4, 5, 6, 7, 8, 9, 33], .t true, .r [] [0, 1, 2, 3, 4, 5, 6, 7, 8, 9, 33]] ((cc h3 (cc h1 (cc h4 (cc h2 (cc (bn (er true)) (cc (bn (er true)) (cc tt (cc (bf true (bn (er true)) (bn (er false))) (cc h5 (cc h5 (cc (er false) nn)))))))))))) (by kernel_rfl)

/-- of two rows: their sum can be made -/
structure AddOk (K : Nat) (a b : List Fq) : Prop where
  n : a.length ≤ 1073741824
  oa : OkL K a
  ob : OkL K b
  r : OkL K (rqs (fvs a))
theorem back_add (a b d e : List Fq) (h1 : a.length = d.length) (h2 : b.length = e.length) (o1 : AddOk 67108864 a d) (o2 : AddOk 67108864 b e) :
    Den PP 23 [GS a b, GS d e] [GS a b, GS d e] (.tup [gsc (rqs (addQ (fvs a) (fvs d))) (rqs (addQ (fvs b) (fvs e))), bc true]) := by
  refine D23 (gout := [(4, BX 43 (GS (rqs (addQ (fvs a) (fvs d))) (rqs (addQ (fvs b) (fvs e))))), (5, bl true)]) (e := .ret) ?_ (by first | exact .inr rfl | exact .inl rfl) (by kernel_rfl) (by kernel_rfl)

  exact ba_ok (row_add a d h1 o1.n o1.oa o1.ob o1.r) (row_add b e h2 o2.n o2.oa o2.ob o2.r) (fff_two _ _) (fff_two _ _)
theorem back_add_no (a b d e : List Fq) (h : ¬ (a.length = d.length ∧ b.length = e.length)) (o1 : AddOk 67108864 a d) (o2 : AddOk 67108864 b e) :
    Den PP 23 [GS a b, GS d e] [GS a b, GS d e] (.tup [gsc [] [], bc false]) := by
  refine D23 (gout := [(4, BX 43 (GS [] [])), (5, bl false)]) (e := .ret) ?_ (by first | exact .inr rfl | exact .inl rfl) (by kernel_rfl) (by kernel_rfl)

  by_cases h1 : a.length = d.length
  · exact ba_2 (row_add a d h1 o1.n o1.oa o1.ob o1.r) (row_add_no b e (fun h2 => h ⟨h1, h2⟩) o2.n o2.oa) (fff_two _ _) (fff_two _ _) rfl
  · by_cases h2 : b.length = e.length
    · exact ba_1 (row_add_no a d h1 o1.n o1.oa) (row_add b e h2 o2.n o2.oa o2.ob o2.r) (fff_two _ _) (fff_two _ _) rfl
    · exact ba_1 (row_add_no a d h1 o1.n o1.oa) (row_add_no b e h2 o2.n o2.oa) (fff_two _ _) (fff_two _ _) rfl
noncomputable def B26 : Code := codeOf Tryz.f26
noncomputable def E26 : Env := EV PP 36 []
theorem D26 {args outs : List S} {gout : List (Nat × S)} {e : Fin} {res : S} (hg : Goes E26 B26 (entry 0 args) e gout) (he : e = .normal ∨ e = .ret) (hle : Nat.ble args.length 36 = true)
    (hfin : finE (tabOf PP) gout Tryz.f26.results.toList args [] = some (outs, res)) : Den PP 26 args outs res :=
  den_tab (fn := Tryz.f26) (c := B26) (by kernel_rfl) (by kernel_rfl) (by kernel_rfl) (by kernel_rfl) hle hfin hg he
theorem bm_ok  {a b d e : List Fq}  {x y z : Fq} 
    (h1 : Den PP 38 [(FL a), (FL d)] [(FL a), (FL d)] (.tup [(true, [(.d (.v (.bool x.neg))), (.d (.sf 1 x.n.length (wf x.n))), (.d (.sf 1 x.d.length (wf x.d)))]), (false, [(.d (.v (.bool true)))])]))
    (h2 : Den PP 38 [(FL b), (FL e)] [(FL b), (FL e)] (.tup [(true, [(.d (.v (.bool y.neg))), (.d (.sf 1 y.n.length (wf y.n))), (.d (.sf 1 y.d.length (wf y.d)))]), (false, [(.d (.v (.bool true)))])]))
    (h3 : Den PP 68 [(FS x), (FS y)] [(FS x), (FS y)] (FS z)) :
    Goes E26 B26 [(0, (GS a b)), (1, (FL d)), (2, (FL e))] .ret [(6, (BX 60 (FS z))), (7, (bl true))] :=
  pathG [.r [] [0, 1, 2, 3, 6, 7], .r [.c [(FL a), (FL d)] [(FL a), (FL d)] (.tup [(true, [(.d (.v (.bool x.neg))), (.d (.sf 1 x.n.length (wf x.n))), (.d (.sf 1 x.d.length (wf x.d)))]), (false, [(.d (.v (.bool true)))])])] [0, 1, 2, 3, 6, 7, 8, 9], .r [.c [(FL b), (FL e)] [(FL b), (FL e)] (.tup [(true, [(.d (.v (.bool y.neg))), (.d (.sf 1 y.n.length (wf y.n))), (.d (.sf 1 y.d.length (wf y.d)))]), (false, [(.d (.v (.bool true)))])])] [0, 1, 2, 3, 6, 7, 8, 9, 10, 11], .r [.b false, .b false] [0, 1, 2, 3, 6, 7, 8, 9, 10, 11, 31], .t false, .r [.c [(FS x), (FS y)] [(FS x), (FS y)] (FS z)] [0, 1, 2, 3, 6, 7, 8, 9, 10, 11, 31]] ((cc (fq a.length 3 (ff a)) (cc (fq d.length 3 (ff d)) (cc h1 (cc (fq b.length 3 (ff b)) (cc (fq e.length 3 (ff e)) (cc h2 (cc (bn (er true)) (cc (bn (er true)) (cc tt (cc (bf true (bn (er true)) (bn (er true))) (cc (er x.neg) (cc (fq x.n.length 1 (wf x.n)) (cc (fq x.d.length 1 (wf x.d)) (cc (er y.neg) (cc (fq y.n.length 1 (wf y.n)) (cc (fq y.d.length 1 (wf y.d)) (cc h3 (cc (er z.neg) (cc (fq z.n.length 1 (wf z.n)) (cc (fq z.d.length 1 (wf z.d)) (cc (er true) nn)))))))))))))))))))))) (by kernel_rfl)
theorem bm_1 {t : Bool} {a b d e : List Fq}  {x y z : Fq} 
    (h1 : Den PP 38 [(FL a), (FL d)] [(FL a), (FL d)] (.tup [(true, [(.d (.v (.bool x.neg))), (.d (.sf 1 x.n.length (wf x.n))), (.d (.sf 1 x.d.length (wf x.d)))]), (false, [(.d (.v (.bool false)))])]))
    (h2 : Den PP 38 [(FL b), (FL e)] [(FL b), (FL e)] (.tup [(true, [(.d (.v (.bool y.neg))), (.d (.sf 1 y.n.length (wf y.n))), (.d (.sf 1 y.d.length (wf y.d)))]), (false, [(.d (.v (.bool t)))])]))
    (h3 : Den PP 35 [(num .i64 (0:Int))] [(num .i64 (0:Int))] (FS z)) :
    Goes E26 B26 [(0, (GS a b)), (1, (FL d)), (2, (FL e))] .ret [(6, (BX 60 (FS z))), (7, (bl false))] :=
  pathG [.r [] [0, 1, 2, 3, 6, 7], .r [.c [(FL a), (FL d)] [(FL a), (FL d)] (.tup [(true, [(.d (.v (.bool x.neg))), (.d (.sf 1 x.n.length (wf x.n))), (.d (.sf 1 x.d.length (wf x.d)))]), (false, [(.d (.v (.bool false)))])])] [0, 1, 2, 3, 6, 7, 8, 9], .r [.c [(FL b), (FL e)] [(FL b), (FL e)] (.tup [(true, [(.d (.v (.bool y.neg))), (.d (.sf 1 y.n.length (wf y.n))), (.d (.sf 1 y.d.length (wf y.d)))]), (false, [(.d (.v (.bool t)))])])] [0, 1, 2, 3, 6, 7, 8, 9, 10, 11], .r [.b true, .b true] [0, 1, 2, 3, 6, 7, 8, 9, 10, 11, 31], .t true, .r [.c [(num .i64 (0:Int))] [(num .i64 (0:Int))] (FS z)] [0, 1, 2, 3, 6, 7, 8, 9, 10, 11, 31]] ((cc (fq a.length 3 (ff a)) (cc (fq d.length 3 (ff d)) (cc h1 (cc (fq b.length 3 (ff b)) (cc (fq e.length 3 (ff e)) (cc h2 (cc (bn (er false)) (cc (bn (er false)) (cc (bn (er false)) (cc (er true) (cc (er (0:Int)) (cc h3 (cc (er z.neg) (cc (fq z.n.length 1 (wf z.n)) (cc (fq z.d.length 1 (wf z.d)) (cc (er false) nn))))))))))))))))) (by kernel_rfl)
theorem bm_2  {a b d e : List Fq}  {x y z : Fq} 
    (h1 : Den PP 38 [(FL a), (FL d)] [(FL a), (FL d)] (.tup [(true, [(.d (.v (.bool x.neg))), (.d (.sf 1 x.n.length (wf x.n))), (.d (.sf 1 x.d.length (wf x.d)))]), (false, [(.d (.v (.bool true)))])]))
    (h2 : Den PP 38 [(FL b), (FL e)] [(FL b), (FL e)] (.tup [(true, [(.d (.v (.bool y.neg))), (.d (.sf 1 y.n.length (wf y.n))), (.d (.sf 1 y.d.length (wf y.d)))]), (false, [(.d (.v (.bool false)))])]))
    (h3 : Den PP 35 [(num .i64 (0:Int))] [(num .i64 (0:Int))] (FS z)) :
    Goes E26 B26 [(0, (GS a b)), (1, (FL d)), (2, (FL e))] .ret [(6, (BX 60 (FS z))), (7, (bl false))] :=
  pathG [.r [] [0, 1, 2, 3, 6, 7], .r [.c [(FL a), (FL d)] [(FL a), (FL d)] (.tup [(true, [(.d (.v (.bool x.neg))), (.d (.sf 1 x.n.length (wf x.n))), (.d (.sf 1 x.d.length (wf x.d)))]), (false, [(.d (.v (.bool true)))])])] [0, 1, 2, 3, 6, 7, 8, 9], .r [.c [(FL b), (FL e)] [(FL b), (FL e)] (.tup [(true, [(.d (.v (.bool y.neg))), (.d (.sf 1 y.n.length (wf y.n))), (.d (.sf 1 y.d.length (wf y.d)))]), (false, [(.d (.v (.bool false)))])])] [0, 1, 2, 3, 6, 7, 8, 9, 10, 11], .r [.b false, .b false] [0, 1, 2, 3, 6, 7, 8, 9, 10, 11, 31], .t true, .r [.c [(num .i64 (0:Int))] [(num .i64 (0:Int))] (FS z)] [0, 1, 2, 3, 6, 7, 8, 9, 10, 11, 31]] ((cc (fq a.length 3 (ff a)) (cc (fq d.length 3 (ff d)) (cc h1 (cc (fq b.length 3 (ff b)) (cc (fq e.length 3 (ff e)) (cc h2 (cc (bn (er true)) (cc (bn (er true)) (cc tt (cc (bf true (bn (er true)) (bn (er false))) (cc (er (0:Int)) (cc h3 (cc (er z.neg) (cc (fq z.n.length 1 (wf z.n)) (cc (fq z.d.length 1 (wf z.d)) (cc (er false) nn))))))))))))))))) (by kernel_rfl)
theorem back_meets (a b d e : List Fq) (h1 : a.length = d.length) (h2 : b.length = e.length) (l1 : a.length ≤ 1073741824) (l2 : b.length ≤ 1073741824) (o1 : DotOkF 67108864 a d) (o2 : DotOkF 67108864 b e) :
    Den PP 26 [GS a b, FL d, FL e] [GS a b, FL d, FL e] (.tup [fsc (rq (dotQ (fvs a) (fvs d) + dotQ (fvs b) (fvs e))), bc true]) := by
  refine D26 (gout := [(6, BX 60 (FS (rq (dotQ (fvs a) (fvs d) + dotQ (fvs b) (fvs e))))), (7, bl true)]) (e := .ret) ?_ (by first | exact .inr rfl | exact .inl rfl) (by kernel_rfl) (by kernel_rfl)

  have c1 := o1.s a.length (Nat.le_refl _)
  have c2 := o2.s b.length (Nat.le_refl _)
  have e1 : dotN (fvs a) (fvs d) a.length = dotQ (fvs a) (fvs d) := by unfold dotQ; rw [fvs_len]
  have e2 : dotN (fvs b) (fvs e) b.length = dotQ (fvs b) (fvs e) := by unfold dotQ; rw [fvs_len]
  rw [e1] at c1
  rw [e2] at c2
  have ha := frac_add (rq (dotQ (fvs a) (fvs d))) (rq (dotQ (fvs b) (fvs e))) c1 c2
  rw [fv_rq, fv_rq] at ha
  exact bm_ok (row_dot a d h1 l1 o1) (row_dot b e h2 l2 o2) ha
theorem back_meets_no (a b d e : List Fq) (h : ¬ (a.length = d.length ∧ b.length = e.length)) (l1 : a.length ≤ 1073741824) (l2 : b.length ≤ 1073741824) (o1 : a.length = d.length → DotOkF 67108864 a d) (o2 : b.length = e.length → DotOkF 67108864 b e) :
    Den PP 26 [GS a b, FL d, FL e] [GS a b, FL d, FL e] (.tup [fsc (rq 0), bc false]) := by
  refine D26 (gout := [(6, BX 60 (FS (rq 0))), (7, bl false)]) (e := .ret) ?_ (by first | exact .inr rfl | exact .inl rfl) (by kernel_rfl) (by kernel_rfl)

  have hz := frac_of 0 (by omega) (by omega)
  by_cases h1 : a.length = d.length
  · exact bm_2 (row_dot a d h1 l1 (o1 h1)) (row_dot_no b e (fun h2 => h ⟨h1, h2⟩)) hz
  · by_cases h2 : b.length = e.length
    · exact bm_1 (row_dot_no a d h1) (row_dot b e h2 l2 (o2 h2)) hz
    · exact bm_1 (row_dot_no a d h1) (row_dot_no b e h2) hz
noncomputable def B17 : Code := codeOf Tryz.f17
noncomputable def E17 : Env := EV PP 10 []
theorem D17 {args outs : List S} {gout : List (Nat × S)} {e : Fin} {res : S} (hg : Goes E17 B17 (entry 0 args) e gout) (he : e = .normal ∨ e = .ret) (hle : Nat.ble args.length 10 = true)
    (hfin : finE (tabOf PP) gout Tryz.f17.results.toList args [] = some (outs, res)) : Den PP 17 args outs res :=
  den_tab (fn := Tryz.f17) (c := B17) (by kernel_rfl) (by kernel_rfl) (by kernel_rfl) (by kernel_rfl) hle hfin hg he
theorem o35_p  {a b d e : List Fq}   
    (h1 : Den PP 55 [(FL a)] [(FL a)] (FL d))
    (h2 : Den PP 55 [(FL b)] [(FL b)] (FL e)) :
    Goes E17 B17 [(0, (GS a b))] .ret [(2, (BX 66 (GS d e)))] :=
  pathG [.r [] [0, 1, 2], .r [.c [(FL a)] [(FL a)] (FL d), .c [(FL b)] [(FL b)] (FL e)] [0, 1, 2]] ((cc (fq a.length 3 (ff a)) (cc h1 (cc (fq b.length 3 (ff b)) (cc h2 (cc (fq d.length 3 (ff d)) (cc (fq e.length 3 (ff e)) nn))))))) (by kernel_rfl)
theorem law35_of (a b : List Fq) (l1 : a.length ≤ 1073741824) (l2 : b.length ≤ 1073741824) :
    Den PP 17 [GS a b] [GS a b] (GS a b) := by
  refine D17 (gout := [(2, BX 66 (GS a b))]) (e := .ret) ?_ (by first | exact .inr rfl | exact .inl rfl) (by kernel_rfl) (by kernel_rfl)

  exact o35_p (law_of11 a l1) (law_of11 b l2)
noncomputable def B16 : Code := codeOf Tryz.f16
noncomputable def E16 : Env := EV PP 17 []
theorem D16 {args outs : List S} {gout : List (Nat × S)} {e : Fin} {res : S} (hg : Goes E16 B16 (entry 0 args) e gout) (he : e = .normal ∨ e = .ret) (hle : Nat.ble args.length 17 = true)
    (hfin : finE (tabOf PP) gout Tryz.f16.results.toList args [] = some (outs, res)) : Den PP 16 args outs res :=
  den_tab (fn := Tryz.f16) (c := B16) (by kernel_rfl) (by kernel_rfl) (by kernel_rfl) (by kernel_rfl) hle hfin hg he
theorem s35_t {t : Bool} {a b d e : List Fq}   
    (h1 : Den PP 54 [(FL a), (FL d)] [(FL a), (FL d)] (bl true))
    (h2 : Den PP 54 [(FL b), (FL e)] [(FL b), (FL e)] (bl t))
    (h3 : (bif true then t else false) = t) :
    Goes E16 B16 [(0, (GS a b)), (1, (GS d e))] .ret [(4, (bl t))] :=
  pathG [.r [] [0, 1, 2, 3, 4], .r [.c [(FL a), (FL d)] [(FL a), (FL d)] (bl true), .b true, .b true, .b true, .b true, .b true, .c [(FL b), (FL e)] [(FL b), (FL e)] (bl t)] [0, 1, 2, 3, 4]] ((cc (fq a.length 3 (ff a)) (cc (fq d.length 3 (ff d)) (cc h1 (cc (er true) (cc (er true) (cc (er true) (cc (er true) (cc (er true) (cc (fq b.length 3 (ff b)) (cc (fq e.length 3 (ff e)) (cc h2 (cc tt (cc h3 nn)))))))))))))) (by kernel_rfl)
theorem s35_f  {a b d e : List Fq}   
    (h1 : Den PP 54 [(FL a), (FL d)] [(FL a), (FL d)] (bl false)) :
    Goes E16 B16 [(0, (GS a b)), (1, (GS d e))] .ret [(4, (bl false))] :=
  pathG [.r [] [0, 1, 2, 3, 4], .r [.c [(FL a), (FL d)] [(FL a), (FL d)] (bl false), .b false, .b false, .b false, .b false, .b false] [0, 1, 2, 3, 4]] ((cc (fq a.length 3 (ff a)) (cc (fq d.length 3 (ff d)) (cc h1 (cc (er false) (cc (er false) (cc (er false) (cc (er false) (cc (er false) (cc (er false) (cc (er false) nn))))))))))) (by kernel_rfl)
theorem ref35_same (a b d e : List Fq) (l1 : a.length ≤ 1073741824) (l2 : b.length ≤ 1073741824) (h1 : OkL 134217728 a) (h2 : OkL 134217728 b) :
    Den PP 16 [GS a b, GS d e] [GS a b, GS d e] (bl (decide (a = d ∧ b = e))) := by
  refine D16 (gout := [(4, bl (decide (a = d ∧ b = e)))]) (e := .ret) ?_ (by first | exact .inr rfl | exact .inl rfl) (by kernel_rfl) (by kernel_rfl)

  have c1 := ref11_same a d l1 h1
  have c2 := ref11_same b e l2 h2
  by_cases hh : a = d
  · rw [decide_eq_true hh] at c1
    rw [show decide (a = d ∧ b = e) = decide (b = e) by rw [decide_eq_decide]; exact ⟨fun h => h.2, fun h => ⟨hh, h⟩⟩]
    exact s35_t c1 c2 rfl
  · rw [decide_eq_false hh] at c1
    rw [decide_eq_false (fun h => hh h.1 : ¬ (a = d ∧ b = e))]
    exact s35_f c1
end Go.X
namespace Go.X
open Go
theorem num_mkRat_le (n : Int) (d : Nat) : (mkRat n d).num.natAbs ≤ n.natAbs := by
  by_cases hd : d = 0
  · subst hd; rw [Rat.mkRat_zero]; exact Nat.zero_le _
  · rw [Rat.num_mkRat, if_neg hd]
    have hg : 0 < Nat.gcd d n.natAbs := Nat.gcd_pos_of_pos_left _ (by omega)
    have h1 : (Nat.gcd d n.natAbs : Int) ∣ n := Int.dvd_natAbs.1 (Int.natCast_dvd_natCast.2 (Nat.gcd_dvd_right d n.natAbs))
    rw [Int.natAbs_ediv_of_dvd h1, Int.natAbs_natCast]
    exact Nat.div_le_self _ _
theorem den_mkRat_le (n : Int) (d : Nat) (hd : d ≠ 0) : (mkRat n d).den ≤ d := by
  rw [Rat.den_mkRat, if_neg hd]
  exact Nat.div_le_self _ _
theorem wd_len_mono {m n : Nat} {k : Nat} (h : m ≤ n) (hk : (wd n).length ≤ k) : (wd m).length ≤ k := Nat.le_trans (wd_mono h) hk
theorem ok_mkRat {n : Int} {d K : Nat} (hd : d ≠ 0) (h1 : (wd n.natAbs).length ≤ K) (h2 : (wd d).length ≤ K) : Ok K (rq (mkRat n d)) :=
  ⟨wd_Wd _, wd_Wd _, wd_len_mono (num_mkRat_le n d) h1, wd_len_mono (den_mkRat_le n d hd) h2⟩
theorem ok_zero {K : Nat} (h : 1 ≤ K) : Ok K (rq 0) := by
  rw [rq_zero]
  exact ⟨fun x hx => by simp at hx, fun x hx => by simp at hx; omega, Nat.zero_le _, h⟩
theorem ok_fv {K : Nat} {f : Fq} (h : Ok K f) (hk : 1 ≤ K) : Ok K (rq (fv f)) := by
  unfold fv
  by_cases hd : val f.d = 0
  · rw [hd, Rat.mkRat_zero]; exact ok_zero hk
  · exact ok_mkRat hd (by rw [zv_abs]; exact Nat.le_trans (wd_len_of h.wn) h.ln) (Nat.le_trans (wd_len_of h.wd) h.ld)
theorem ok_mul {A B : Nat} {x y : Rat} (h1 : Ok A (rq x)) (h2 : Ok B (rq y)) : Ok (A + B) (rq (x * y)) := by
  rw [← Rat.mkRat_self x, ← Rat.mkRat_self y, Rat.mkRat_mul_mkRat]
  refine ok_mkRat (Nat.mul_ne_zero x.den_nz y.den_nz) ?_ (wd_mul_len h1.ld h2.ld)
  rw [Int.natAbs_mul]; exact wd_mul_len h1.ln h2.ln
theorem ok_add {A B : Nat} {x y : Rat} (h1 : Ok A (rq x)) (h2 : Ok B (rq y)) : Ok (A + B + 1) (rq (x + y)) := by
  rw [← Rat.mkRat_self x, ← Rat.mkRat_self y, Rat.mkRat_add_mkRat _ _ x.den_nz y.den_nz]
  refine ok_mkRat (Nat.mul_ne_zero x.den_nz y.den_nz) ?_ (Nat.le_trans (wd_mul_len h1.ld h2.ld) (by omega))
  refine wd_add_len ?_ ?_
  · rw [Int.natAbs_mul, Int.natAbs_natCast]; exact wd_mul_len h1.ln h2.ld
  · rw [Int.natAbs_mul, Int.natAbs_natCast, Nat.add_comm A B]; exact wd_mul_len h2.ln h1.ld
theorem ok_neg {A : Nat} {x : Rat} (h1 : Ok A (rq x)) : Ok A (rq (-x)) := by
  refine ⟨wd_Wd _, wd_Wd _, ?_, h1.ld⟩
  show (wd (-x.num).natAbs).length ≤ A
  rw [Int.natAbs_neg]; exact h1.ln
/-- values of at most so many words -/
def Vk (K : Nat) (a : List Rat) : Prop := ∀ i, i < a.length → Ok K (rq (a.getD i 0))
theorem Vk.okL {K : Nat} {a : List Rat} (h : Vk K a) : OkL K (rqs a) := by
  intro i hi
  rw [rqs_len] at hi
  rw [getD_rqs _ _ hi]
  exact h i hi
theorem Vk.mono {K L : Nat} {a : List Rat} (h : Vk K a) (hk : K ≤ L) : Vk L a := fun i hi => (h i hi).mono hk
theorem OkL.mono {K L : Nat} {a : List Fq} (h : OkL K a) (hk : K ≤ L) : OkL L a := fun i hi => (h i hi).mono hk
theorem OkL.vk {K : Nat} {a : List Fq} (h : OkL K a) (hk : 1 ≤ K) : Vk K (fvs a) := by
  intro i hi
  rw [fvs_len] at hi
  rw [getD_fvs _ _ hi]
  exact ok_fv (h i hi) hk
theorem ok_dotN {K : Nat} {a b : List Rat} (hk : 1 ≤ K) (h1 : Vk K a) (h2 : Vk K b) (he : a.length = b.length) : ∀ i, i ≤ a.length → Ok (i * (2 * K + 1) + 1) (rq (dotN a b i))
  | 0, _ => ok_zero (by omega)
  | i + 1, h => by
    have r := ok_dotN hk h1 h2 he i (by omega)
    have m := ok_mul (h1 i (by omega)) (h2 i (by omega))
    have s := ok_add r m
    refine s.mono ?_
    rw [Nat.add_mul]; omega
theorem Vk.dot {K : Nat} {a b : List Rat} {n : Nat} (hk : 1 ≤ K) (h1 : Vk K a) (h2 : Vk K b) (he : a.length = b.length) (hn : a.length ≤ n) {M : Nat} (hM : n * (2 * K + 1) + 1 ≤ M) (hM2 : 2 * K ≤ M) : DotOk M a b := by
  refine ⟨fun i hi => (ok_dotN hk h1 h2 he i hi).mono ?_, fun i hi => ⟨(h1 i hi).mono (by omega), (h2 i (by omega)).mono (by omega), (ok_mul (h1 i hi) (h2 i (by omega))).mono (by omega)⟩⟩
  have : i * (2 * K + 1) ≤ n * (2 * K + 1) := Nat.mul_le_mul_right _ (by omega)
  omega
theorem OkL.dotF {K : Nat} {a b : List Fq} {n : Nat} (hk : 1 ≤ K) (h1 : OkL K a) (h2 : OkL K b) (he : a.length = b.length) (hn : a.length ≤ n) {M : Nat} (hM : n * (2 * K + 1) + 1 ≤ M) (hM2 : 2 * K ≤ M) : DotOkF M a b := by
  have v1 := h1.vk hk
  have v2 := h2.vk hk
  have hd := Vk.dot hk v1 v2 (by rw [fvs_len, fvs_len, he]) (by rw [fvs_len]; exact hn) hM hM2
  refine ⟨h1.mono (by omega), h2.mono (by omega), fun i hi => hd.1 i (by rw [fvs_len]; exact hi), fun i hi => ?_⟩
  have := (hd.2 i (by rw [fvs_len]; exact hi)).2.2
  rw [getD_fvs _ _ hi, getD_fvs _ _ (by omega)] at this
  exact this
theorem addQ_len (a b : List Rat) (he : a.length = b.length) : (addQ a b).length = a.length := by simp [addQ, he]
theorem addQ_getD (a b : List Rat) (he : a.length = b.length) (i : Nat) (hi : i < a.length) : (addQ a b).getD i 0 = a.getD i 0 + b.getD i 0 := by
  have hb : i < b.length := by omega
  simp only [addQ, List.getD, List.getElem?_zipWith, List.getElem?_eq_getElem hi, List.getElem?_eq_getElem hb]; rfl
theorem Vk.add {K : Nat} {a b : List Rat} (h1 : Vk K a) (h2 : Vk K b) (he : a.length = b.length) : Vk (K + K + 1) (addQ a b) := by
  intro i hi
  rw [addQ_len a b he] at hi
  rw [addQ_getD a b he i hi]
  exact ok_add (h1 i hi) (h2 i (by omega))
theorem noughts_vk {K : Nat} (n : Nat) (h : 1 ≤ K) : Vk K (noughts n) := by
  intro i hi
  have : (noughts n).getD i 0 = 0 := by
    have hi' : i < n := by simpa [noughts] using hi
    simp [noughts, List.getD, hi']
  rw [this]; exact ok_zero h
theorem noughts_len (n : Nat) : (noughts n).length = n := by simp [noughts]
theorem not_long {l : List Fq} {n w : Nat} (h : ¬ Lng l n w) (hw : ∀ i, i < l.length → Wd (l.getD i fz).n ∧ Wd (l.getD i fz).d) : l.length ≤ n ∧ OkL w l := by
  have hl : l.length ≤ n := Nat.le_of_not_lt fun h2 => h (.inl h2)
  refine ⟨hl, fun i hi => ⟨(hw i hi).1, (hw i hi).2, ?_, ?_⟩⟩
  · exact Nat.le_of_not_lt fun h2 => h (.inr ⟨i, hi, by omega, .inl h2⟩)
  · exact Nat.le_of_not_lt fun h2 => h (.inr ⟨i, hi, by omega, .inr h2⟩)
end Go.X
