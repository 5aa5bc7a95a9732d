/- Part 20 of the proof of BackSums: Paths and contracts. Paths and contracts. No conditions but those that each theorem names. -/
import Derived.Test.YthmecihkgdaffaaGreatDoorP19
namespace Go.X
open Go Go.Proofs
noncomputable def B36 : Code := codeOf Tryz.f36
noncomputable def E36 : Env := EV PP 12 []
theorem D36 {args outs : List S} {gout : List (Nat × S)} {e : Fin} {res : S} (hg : Goes E36 B36 (entry 0 args) e gout) (he : e = .normal ∨ e = .ret) (hle : Nat.ble args.length 12 = true)
    (hfin : finE (tabOf PP) gout Tryz.f36.results.toList args [] = some (outs, res)) : Den PP 36 args outs res :=
  den_tab (fn := Tryz.f36) (c := B36) (by kernel_rfl) (by kernel_rfl) (by kernel_rfl) (by kernel_rfl) hle hfin hg he
theorem fs_p {a : Bool} {n d : List Nat} {f : Fq} {q : Int}
    (h1 : Den PP 78 [(FS f)] [(FS f)] (.tup [zsc a n, wc d]))
    (h2 : Den PP 79 [(ZS a n)] [(ZS a n)] (num .i64 q)) :
    Goes E36 B36 [(0, (FS f))] .ret [(2, (num .i64 q))] :=
  pathG [.r [] [0, 1, 2], .r [.c [(FS f)] [(FS f)] (.tup [zsc a n, wc d])] [0, 1, 2, 3], .r [.c [(ZS a n)] [(ZS a n)] (num .i64 q)] [0, 1, 2, 3]] ((cc (er f.neg) (cc (fq f.n.length 1 (wf f.n)) (cc (fq f.d.length 1 (wf f.d)) (cc h1 (cc (er a) (cc (fq n.length 1 (wf n)) (cc h2 (cc (er q) nn))))))))) (by kernel_rfl)

theorem sign_mkRat (z : Int) {d : Nat} (h : d ≠ 0) : (mkRat z d).num.sign = z.sign := by
  rw [Rat.num_mkRat, if_neg h]
  have hg : (Nat.gcd d z.natAbs) ∣ z.natAbs := Nat.gcd_dvd_right _ _
  have hg0 : 0 < Nat.gcd d z.natAbs := Nat.gcd_pos_of_pos_left _ (Nat.pos_of_ne_zero h)
  obtain ⟨k, hk⟩ : ((Nat.gcd d z.natAbs : Nat) : Int) ∣ z := Int.ofNat_dvd_left.2 hg
  have h2 : ((Nat.gcd d z.natAbs : Nat) : Int) ≠ 0 := by omega
  have h3 : z / ((Nat.gcd d z.natAbs : Nat) : Int) = k := by
    have := Int.mul_ediv_cancel_left k h2
    rw [← hk] at this; exact this
  rw [h3]
  have h4 : z.sign = ((Nat.gcd d z.natAbs : Nat) : Int).sign * k.sign := by rw [← Int.sign_mul, ← hk]
  rw [h4, Int.sign_eq_one_of_pos (show 0 < ((Nat.gcd d z.natAbs : Nat) : Int) by omega), Int.one_mul]
theorem sign_fv (f : Fq) : (fv f).num.sign = (zv f.b' f.n').sign := by rw [fv', sign_mkRat _ (d'_ne f)]
theorem frac_sign (f : Fq) (h : Ok 67108864 f) :
    Den PP 36 [FS f] [FS f] (num .i64 (fv f).num.sign) := by
  refine D36 (gout := [(2, num .i64 (fv f).num.sign)]) (e := .ret) ?_ (by first | exact .inr rfl | exact .inl rfl) (by kernel_rfl) (by kernel_rfl)

  have hn := h.n'
  have hs := whole_sign f.b' f.n' hn.1 (by omega)
  rw [← sign_fv] at hs
  exact fs_p (frac_parts f (h.mono (by omega))) hs
noncomputable def B83 : Code := codeOf Tryz.f83
noncomputable def E83 : Env := EV PP 26 []
theorem D83 {args outs : List S} {gout : List (Nat × S)} {e : Fin} {res : S} (hg : Goes E83 B83 (entry 0 args) e gout) (he : e = .normal ∨ e = .ret) (hle : Nat.ble args.length 26 = true)
    (hfin : finE (tabOf PP) gout Tryz.f83.results.toList args [] = some (outs, res)) : Den PP 83 args outs res :=
  den_tab (fn := Tryz.f83) (c := B83) (by kernel_rfl) (by kernel_rfl) (by kernel_rfl) (by kernel_rfl) hle hfin hg he
theorem fcm_p {a b t s : Bool} {n m d e g h : List Nat} {f k : Fq} {q : Int}
    (h1 : Den PP 78 [(FS f)] [(FS f)] (.tup [zsc a n, wc d]))
    (h2 : Den PP 78 [(FS k)] [(FS k)] (.tup [zsc b m, wc e]))
    (h3 : Den PP 115 [(ZS a n), (W e)] [(ZS a n), (W e)] (ZS t g))
    (h4 : Den PP 115 [(ZS b m), (W d)] [(ZS b m), (W d)] (ZS s h))
    (h5 : Den PP 130 [(ZS t g), (ZS s h)] [(ZS t g), (ZS s h)] (num .i64 q)) :
    Goes E83 B83 [(0, (FS f)), (1, (FS k))] .ret [(4, (num .i64 q))] :=
  pathG [.r [] [0, 1, 2, 3, 4], .r [.c [(FS f)] [(FS f)] (.tup [zsc a n, wc d])] [0, 1, 2, 3, 4, 5, 6], .r [.c [(FS k)] [(FS k)] (.tup [zsc b m, wc e])] [0, 1, 2, 3, 4, 5, 6, 7, 8], .r [.c [(ZS a n), (W e)] [(ZS a n), (W e)] (ZS t g), .c [(ZS b m), (W d)] [(ZS b m), (W d)] (ZS s h), .c [(ZS t g), (ZS s h)] [(ZS t g), (ZS s h)] (num .i64 q)] [0, 1, 2, 3, 4, 5, 6, 7, 8]] ((cc (er f.neg) (cc (fq f.n.length 1 (wf f.n)) (cc (fq f.d.length 1 (wf f.d)) (cc h1 (cc (er k.neg) (cc (fq k.n.length 1 (wf k.n)) (cc (fq k.d.length 1 (wf k.d)) (cc h2 (cc (er a) (cc (fq n.length 1 (wf n)) (cc (fq e.length 1 (wf e)) (cc h3 (cc (er b) (cc (fq m.length 1 (wf m)) (cc (fq d.length 1 (wf d)) (cc h4 (cc (er t) (cc (fq g.length 1 (wf g)) (cc (er s) (cc (fq h.length 1 (wf h)) (cc h5 (cc (er q) nn))))))))))))))))))))))) (by kernel_rfl)
theorem frac_cmp (f k : Fq) (hf : Ok 67108864 f) (hk : Ok 67108864 k) :
    Den PP 83 [FS f, FS k] [FS f, FS k] (num .i64 (fv f - fv k).num.sign) := by
  refine D83 (gout := [(4, num .i64 (fv f - fv k).num.sign)]) (e := .ret) ?_ (by first | exact .inr rfl | exact .inl rfl) (by kernel_rfl) (by kernel_rfl)

  have hn := hf.n'
  have hd := hf.d' (by omega)
  have hm := hk.n'
  have he := hk.d' (by omega)
  have x1 := frac_cross f.b' f.n' k.d' hn.1 he.1 (by omega) (by omega)
  have x2 := frac_cross k.b' k.n' f.d' hm.1 hd.1 (by omega) (by omega)
  have l1 : (wd (zv f.b' f.n' * (val k.d' : Int)).natAbs).length ≤ 134217728 := by
    rw [Int.natAbs_mul, zv_abs, Int.natAbs_natCast]
    exact wd_mul_len (Nat.le_trans (wd_len_of hn.1) hn.2) (Nat.le_trans (wd_len_of he.1) he.2)
  have l2 : (wd (zv k.b' k.n' * (val f.d' : Int)).natAbs).length ≤ 134217728 := by
    rw [Int.natAbs_mul, zv_abs, Int.natAbs_natCast]
    exact wd_mul_len (Nat.le_trans (wd_len_of hm.1) hm.2) (Nat.le_trans (wd_len_of hd.1) hd.2)
  have ad := whole_cmp (decide (zv f.b' f.n' * (val k.d' : Int) < 0)) (decide (zv k.b' k.n' * (val f.d' : Int) < 0)) _ _ (wd_Wd (zv f.b' f.n' * (val k.d' : Int)).natAbs) (wd_Wd (zv k.b' k.n' * (val f.d' : Int)).natAbs) (by omega) (by omega)
  rw [zv_wd, zv_wd] at ad
  have hq : (fv f - fv k).num.sign = (zv f.b' f.n' * (val k.d' : Int) - zv k.b' k.n' * (val f.d' : Int)).sign := by
    rw [fv' f, fv' k, Rat.sub_eq_add_neg, Rat.neg_mkRat, Rat.mkRat_add_mkRat _ _ (d'_ne f) (d'_ne k), Int.neg_mul, ← Int.sub_eq_add_neg, sign_mkRat _ (Nat.mul_ne_zero (d'_ne f) (d'_ne k))]
  rw [hq]
  exact fcm_p (frac_parts f (hf.mono (by omega))) (frac_parts k (hk.mono (by omega))) x1 x2 ad
noncomputable def B39 : Code := codeOf Tryz.f39
noncomputable def E39 : Env := EV PP 9 []
theorem D39 {args outs : List S} {gout : List (Nat × S)} {e : Fin} {res : S} (hg : Goes E39 B39 (entry 0 args) e gout) (he : e = .normal ∨ e = .ret) (hle : Nat.ble args.length 9 = true)
    (hfin : finE (tabOf PP) gout Tryz.f39.results.toList args [] = some (outs, res)) : Den PP 39 args outs res :=
  den_tab (fn := Tryz.f39) (c := B39) (by kernel_rfl) (by kernel_rfl) (by kernel_rfl) (by kernel_rfl) hle hfin hg he
theorem fsa_p {t : Bool}  {f k : Fq} {q : Int}
    (h1 : Den PP 83 [(FS f), (FS k)] [(FS f), (FS k)] (num .i64 q))
    (h2 : (q == (0:Int)) = t) :
    Goes E39 B39 [(0, (FS f)), (1, (FS k))] .ret [(4, (bl t))] :=
  pathG [.r [] [0, 1, 2, 3, 4], .r [.c [(FS f), (FS k)] [(FS f), (FS k)] (num .i64 q)] [0, 1, 2, 3, 4]] ((cc (er f.neg) (cc (fq f.n.length 1 (wf f.n)) (cc (fq f.d.length 1 (wf f.d)) (cc (er k.neg) (cc (fq k.n.length 1 (wf k.n)) (cc (fq k.d.length 1 (wf k.d)) (cc h1 (cc h2 nn))))))))) (by kernel_rfl)
theorem frac_same (f k : Fq) (hf : Ok 67108864 f) (hk : Ok 67108864 k) :
    Den PP 39 [FS f, FS k] [FS f, FS k] (bl (decide (fv f = fv k))) := by
  refine D39 (gout := [(4, bl (decide (fv f = fv k)))]) (e := .ret) ?_ (by first | exact .inr rfl | exact .inl rfl) (by kernel_rfl) (by kernel_rfl)

  refine fsa_p (frac_cmp f k hf hk) ?_
  by_cases h : fv f = fv k
  · rw [decide_eq_true h, h, Rat.sub_self]; rfl
  · rw [decide_eq_false h, beq_eq_false_iff_ne]
    intro h0
    have h1 : (fv f - fv k).num = 0 := Int.sign_eq_zero_iff_zero.1 h0
    have h2 : fv f - fv k = 0 := Rat.num_eq_zero.1 h1
    refine h ?_
    have h3 : fv f = (fv f - fv k) + fv k := by grind
    rw [h3, h2, Rat.zero_add]
noncomputable def B237 : Code := codeOf Tryz.f237
noncomputable def E237 : Env := EV PP 11 []
theorem D237 {args outs : List S} {gout : List (Nat × S)} {e : Fin} {res : S} (hg : Goes E237 B237 (entry 0 args) e gout) (he : e = .normal ∨ e = .ret) (hle : Nat.ble args.length 11 = true)
    (hfin : finE (tabOf PP) gout Tryz.f237.results.toList args [] = some (outs, res)) : Den PP 237 args outs res :=
  den_tab (fn := Tryz.f237) (c := B237) (by kernel_rfl) (by kernel_rfl) (by kernel_rfl) (by kernel_rfl) hle hfin hg he
theorem fng_p {a t : Bool} {n d g : List Nat} {f : Fq} 
    (h1 : Den PP 112 [(FS f)] [(FS f)] (FS ⟨a, n, d⟩))
    (h2 : Den PP 210 [(ZS a n)] [(ZS a n)] (ZS t g)) :
    Goes E237 B237 [(0, (FS f))] .ret [(2, (BX 60 (FS ⟨t, g, d⟩)))] :=
  pathG [.r [] [0, 1, 2], .r [.c [(FS f)] [(FS f)] (FS ⟨a, n, d⟩)] [0, 1, 2, 3], .r [.c [(ZS a n)] [(ZS a n)] (ZS t g)] [0, 1, 2, 3], .r [] [0, 1, 2, 3]] ((cc (er f.neg) (cc (fq f.n.length 1 (wf f.n)) (cc (fq f.d.length 1 (wf f.d)) (cc h1 (cc (er a) (cc (fq n.length 1 (wf n)) (cc h2 (cc (er t) (cc (fq g.length 1 (wf g)) (cc (fq d.length 1 (wf d)) nn))))))))))) (by kernel_rfl)

theorem rq_num (q : Rat) : zv (rq q).neg (rq q).n = q.num := zv_wd _
theorem rq_neg (q : Rat) : rq (-q) = ⟨decide (-q.num < 0), wd (-q.num).natAbs, wd q.den⟩ := rfl
theorem frac_neg (f : Fq) (h : Ok 67108864 f) :
    Den PP 237 [FS f] [FS f] (FS (rq (-(fv f)))) := by
  refine D237 (gout := [(2, BX 60 (FS (rq (-(fv f)))))]) (e := .ret) ?_ (by first | exact .inr rfl | exact .inl rfl) (by kernel_rfl) (by kernel_rfl)

  have hn := frac_norm f h
  have hw := whole_neg (rq (fv f)).neg (rq (fv f)).n (wd_Wd _) (by
    show (wd (fv f).num.natAbs).length ≤ 4294967296
    have h1 : (fv f).num.natAbs ≤ val f.n' := by
      rw [fv', Rat.num_mkRat, if_neg (d'_ne f), Int.natAbs_ediv_of_dvd (Int.ofNat_dvd_left.2 (Nat.gcd_dvd_right _ _)), zv_abs]
      exact Nat.div_le_self _ _
    have := h.n'
    exact Nat.le_trans (wd_mono h1) (Nat.le_trans (wd_len_of this.1) (by omega)))
  rw [rq_num] at hw
  exact fng_p hn hw
noncomputable def B81 : Code := codeOf Tryz.f81
noncomputable def E81 : Env := EV PP 9 []
theorem D81 {args outs : List S} {gout : List (Nat × S)} {e : Fin} {res : S} (hg : Goes E81 B81 (entry 0 args) e gout) (he : e = .normal ∨ e = .ret) (hle : Nat.ble args.length 9 = true)
    (hfin : finE (tabOf PP) gout Tryz.f81.results.toList args [] = some (outs, res)) : Den PP 81 args outs res :=
  den_tab (fn := Tryz.f81) (c := B81) (by kernel_rfl) (by kernel_rfl) (by kernel_rfl) (by kernel_rfl) hle hfin hg he
theorem fab_p {a : Bool} {n d : List Nat} {f : Fq} 
    (h1 : Den PP 112 [(FS f)] [(FS f)] (FS ⟨a, n, d⟩)) :
    Goes E81 B81 [(0, (FS f))] .ret [(2, (BX 60 (FS ⟨false, n, d⟩)))] :=
  pathG [.r [] [0, 1, 2], .r [.c [(FS f)] [(FS f)] (FS ⟨a, n, d⟩)] [0, 1, 2, 3], .r [] [0, 1, 2, 3], .r [] [0, 1, 2, 3]] ((cc (er f.neg) (cc (fq f.n.length 1 (wf f.n)) (cc (fq f.d.length 1 (wf f.d)) (cc h1 (cc (er false) (cc (fq n.length 1 (wf n)) (cc (fq d.length 1 (wf d)) nn)))))))) (by kernel_rfl)

/-- a value without its sign -/
def rabs (q : Rat) : Rat := mkRat q.num.natAbs q.den
theorem rabs_num (q : Rat) : (rabs q).num = q.num.natAbs := by
  unfold rabs
  rw [Rat.num_mkRat, if_neg q.den_nz, Int.natAbs_natCast, Nat.gcd_comm, q.reduced]; simp
theorem rabs_den (q : Rat) : (rabs q).den = q.den := by
  unfold rabs
  rw [Rat.den_mkRat, if_neg q.den_nz, Int.natAbs_natCast, Nat.gcd_comm, q.reduced]; simp
theorem rq_abs (q : Rat) : rq (rabs q) = ⟨false, wd q.num.natAbs, wd q.den⟩ := by
  unfold rq
  rw [rabs_num, rabs_den, Int.natAbs_natCast]
  congr 1
theorem frac_abs (f : Fq) (h : Ok 67108864 f) :
    Den PP 81 [FS f] [FS f] (FS (rq (rabs (fv f)))) := by
  refine D81 (gout := [(2, BX 60 (FS (rq (rabs (fv f)))))]) (e := .ret) ?_ (by first | exact .inr rfl | exact .inl rfl) (by kernel_rfl) (by kernel_rfl)

  rw [rq_abs]
  exact fab_p (frac_norm f h)
noncomputable def B222 : Code := codeOf Tryz.f222
noncomputable def E222 : Env := EV PP 11 []
theorem D222 {args outs : List S} {gout : List (Nat × S)} {e : Fin} {res : S} (hg : Goes E222 B222 (entry 0 args) e gout) (he : e = .normal ∨ e = .ret) (hle : Nat.ble args.length 11 = true)
    (hfin : finE (tabOf PP) gout Tryz.f222.results.toList args [] = some (outs, res)) : Den PP 222 args outs res :=
  den_tab (fn := Tryz.f222) (c := B222) (by kernel_rfl) (by kernel_rfl) (by kernel_rfl) (by kernel_rfl) hle hfin hg he
theorem fz_p   {f : Fq} {q c : Int}
    (h1 : Den PP 266 [(W f.n)] [(W f.n)] (num .i64 q))
    (h2 : Den PP 266 [(W f.d)] [(W f.d)] (num .i64 c))
    (h3 : inR .i64 (q + c)) :
    Goes E222 B222 [(0, (FS f))] .ret [(2, (num .i64 (q + c)))] :=
  pathG [.r [] [0, 1, 2], .r [.c [(W f.n)] [(W f.n)] (num .i64 q), .c [(W f.d)] [(W f.d)] (num .i64 c)] [0, 1, 2]] ((cc (fq f.n.length 1 (wf f.n)) (cc h1 (cc (fq f.d.length 1 (wf f.d)) (cc h2 (cc h3 (cc (er (q + c)) nn))))))) (by kernel_rfl)

theorem nb_words {l : List Nat} (h : Wd l) : nb (val l) ≤ 32 * l.length := by
  refine nb_le ?_
  rw [Nat.pow_mul]
  exact val_lt h
theorem frac_size (f : Fq) (h : Ok 67108864 f) :
    Den PP 222 [FS f] [FS f] (num .i64 ((nb (val f.n) + nb (val f.d) : Nat) : Int)) := by
  refine D222 (gout := [(2, num .i64 ((nb (val f.n) + nb (val f.d) : Nat) : Int))]) (e := .ret) ?_ (by first | exact .inr rfl | exact .inl rfl) (by kernel_rfl) (by kernel_rfl)

  have h1 := twos_len f.n h.wn (by have := h.ln; omega)
  have h2 := twos_len f.d h.wd (by have := h.ld; omega)
  have e1 := nb_words h.wn
  have e2 := nb_words h.wd
  have := h.ln
  have := h.ld
  rw [show ((nb (val f.n) + nb (val f.d) : Nat) : Int) = (nb (val f.n) : Int) + (nb (val f.d) : Int) by omega]
  exact fz_p h1 h2 (i64_ok (by omega) (by omega))
noncomputable def B87 : Code := codeOf Tryz.f87
noncomputable def E87 : Env := EV PP 40 []
theorem D87 {args outs : List S} {gout : List (Nat × S)} {e : Fin} {res : S} (hg : Goes E87 B87 (entry 0 args) e gout) (he : e = .normal ∨ e = .ret) (hle : Nat.ble args.length 40 = true)
    (hfin : finE (tabOf PP) gout Tryz.f87.results.toList args [] = some (outs, res)) : Den PP 87 args outs res :=
  den_tab (fn := Tryz.f87) (c := B87) (by kernel_rfl) (by kernel_rfl) (by kernel_rfl) (by kernel_rfl) hle hfin hg he
theorem fq_0 {a b : Bool} {n m d e : List Nat} {f k z : Fq} {q : Int}
    (h1 : Den PP 78 [(FS f)] [(FS f)] (.tup [zsc a n, wc d]))
    (h2 : Den PP 78 [(FS k)] [(FS k)] (.tup [zsc b m, wc e]))
    (h3 : Den PP 79 [(ZS b m)] [(ZS b m)] (num .i64 q))
    (h4 : Den PP 35 [(num .i64 (0:Int))] [(num .i64 (0:Int))] (FS z))
    (h5 : (q == (0:Int)) = true) :
    Goes E87 B87 [(0, (FS f)), (1, (FS k))] .ret [(4, (BX 60 (FS z))), (5, (bl false))] :=
  pathG [.r [] [0, 1, 2, 3, 4, 5], .r [.c [(FS f)] [(FS f)] (.tup [zsc a n, wc d])] [0, 1, 2, 3, 4, 5, 6, 7], .r [.c [(FS k)] [(FS k)] (.tup [zsc b m, wc e])] [0, 1, 2, 3, 4, 5, 6, 7, 8, 9], .r [.c [(ZS b m)] [(ZS b m)] (num .i64 q)] [0, 1, 2, 3, 4, 5, 6, 7, 8, 9, 23], .t true, .r [.c [(num .i64 (0:Int))] [(num .i64 (0:Int))] (FS z)] [0, 1, 2, 3, 4, 5, 6, 7, 8, 9, 23]] ((cc (er f.neg) (cc (fq f.n.length 1 (wf f.n)) (cc (fq f.d.length 1 (wf f.d)) (cc h1 (cc (er k.neg) (cc (fq k.n.length 1 (wf k.n)) (cc (fq k.d.length 1 (wf k.d)) (cc h2 (cc (er b) (cc (fq m.length 1 (wf m)) (cc h3 (cc h5 (cc (er (0:Int)) (cc h4 (cc (er z.neg) (cc (fq z.n.length 1 (wf z.n)) (cc (fq z.d.length 1 (wf z.d)) (cc (er false) nn))))))))))))))))))) (by kernel_rfl)
theorem fq_p {a b t c : Bool} {n m d e g y r w : List Nat} {f k : Fq} {q : Int}
    (h1 : Den PP 78 [(FS f)] [(FS f)] (.tup [zsc a n, wc d]))
    (h2 : Den PP 78 [(FS k)] [(FS k)] (.tup [zsc b m, wc e]))
    (h3 : Den PP 79 [(ZS b m)] [(ZS b m)] (num .i64 q))
    (h4 : Den PP 115 [(ZS a n), (W e)] [(ZS a n), (W e)] (ZS t g))
    (h5 : Den PP 116 [(W d), (W m)] [(W d), (W m)] (W w))
    (h6 : Den PP 113 [(ZS (!(t == b)) g), (W w)] [(ZS (!(t == b)) g), (W w)] (FS ⟨c, r, y⟩))
    (h7 : (q == (0:Int)) = false) :
    Goes E87 B87 [(0, (FS f)), (1, (FS k))] .ret [(4, (BX 60 (FS ⟨c, r, y⟩))), (5, (bl true))] :=
  pathG [.r [] [0, 1, 2, 3, 4, 5], .r [.c [(FS f)] [(FS f)] (.tup [zsc a n, wc d])] [0, 1, 2, 3, 4, 5, 6, 7], .r [.c [(FS k)] [(FS k)] (.tup [zsc b m, wc e])] [0, 1, 2, 3, 4, 5, 6, 7, 8, 9], .r [.c [(ZS b m)] [(ZS b m)] (num .i64 q)] [0, 1, 2, 3, 4, 5, 6, 7, 8, 9, 23], .t false, .r [.c [(ZS a n), (W e)] [(ZS a n), (W e)] (ZS t g)] [0, 1, 2, 3, 4, 5, 6, 7, 8, 9, 10, 23], .r [] [0, 1, 2, 3, 4, 5, 6, 7, 8, 9, 10, 23], .r [.c [(W d), (W m)] [(W d), (W m)] (W w), .c [(ZS (!(t == b)) g), (W w)] [(ZS (!(t == b)) g), (W w)] (FS ⟨c, r, y⟩)] [0, 1, 2, 3, 4, 5, 6, 7, 8, 9, 10, 23]] ((cc (er f.neg) (cc (fq f.n.length 1 (wf f.n)) (cc (fq f.d.length 1 (wf f.d)) (cc h1 (cc (er k.neg) (cc (fq k.n.length 1 (wf k.n)) (cc (fq k.d.length 1 (wf k.d)) (cc h2 (cc (er b) (cc (fq m.length 1 (wf m)) (cc h3 (cc h7 (cc (er a) (cc (fq n.length 1 (wf n)) (cc (fq e.length 1 (wf e)) (cc h4 (cc (fq d.length 1 (wf d)) (cc (fq m.length 1 (wf m)) (cc h5 (cc (er (!(t == b))) (cc (fq g.length 1 (wf g)) (cc (fq w.length 1 (wf w)) (cc h6 (cc (er c) (cc (fq r.length 1 (wf r)) (cc (fq y.length 1 (wf y)) (cc (er true) nn)))))))))))))))))))))))))))) (by kernel_rfl)

theorem mkRat_quo (z1 z2 s : Int) (d1 d2 m : Nat) (h1 : d1 ≠ 0) (h2 : d2 ≠ 0) (hm : m ≠ 0) (hs : z2 = s * m) (h1s : s * s = 1) : mkRat (s * (z1 * d2)) (d1 * m) = mkRat z1 d1 / mkRat z2 d2 := by
  have hz : mkRat z2 d2 ≠ 0 := by
    rw [Rat.mkRat_ne_zero h2, hs]
    intro h0
    rcases Int.mul_eq_zero.1 h0 with h | h
    · rw [h] at h1s; simp at h1s
    · omega
  have e : mkRat (s * (z1 * d2)) (d1 * m) * mkRat z2 d2 = mkRat z1 d1 := by
    rw [Rat.mkRat_mul_mkRat, Rat.mkRat_eq_iff (Nat.mul_ne_zero (Nat.mul_ne_zero h1 hm) h2) h1, hs]
    have : s * (z1 * d2) * (s * m) * d1 = (s * s) * (z1 * (d1 * m * d2)) := by grind
    rw [this, h1s, Int.one_mul]
    simp only [Int.natCast_mul]
  rw [← e, Rat.mul_div_cancel hz]
theorem frac_quo_0 (f k : Fq) (hf : Ok 67108864 f) (hk : Ok 67108864 k) (h0 : fv k = 0) : Den PP 87 [FS f, FS k] [FS f, FS k] (.tup [fsc (rq 0), bc false]) := by
  refine D87 (gout := [(4, BX 60 (FS (rq 0))), (5, bl false)]) (e := .ret) ?_ (.inr rfl) (by kernel_rfl) (by kernel_rfl)
  have hm := hk.n'
  have hs := whole_sign k.b' k.n' hm.1 (by omega)
  rw [← sign_fv, h0] at hs
  exact fq_0 (frac_parts f (hf.mono (by omega))) (frac_parts k (hk.mono (by omega))) hs (frac_of 0 (by omega) (by omega)) rfl
theorem frac_quo (f k : Fq) (hf : Ok 67108864 f) (hk : Ok 67108864 k) (h0 : fv k ≠ 0) : Den PP 87 [FS f, FS k] [FS f, FS k] (.tup [fsc (rq (fv f / fv k)), bc true]) := by
  refine D87 (gout := [(4, BX 60 (FS (rq (fv f / fv k)))), (5, bl true)]) (e := .ret) ?_ (.inr rfl) (by kernel_rfl) (by kernel_rfl)
  have hn := hf.n'
  have hd := hf.d' (by omega)
  have hm := hk.n'
  have he := hk.d' (by omega)
  have hs := whole_sign k.b' k.n' hm.1 (by omega)
  rw [← sign_fv] at hs
  have x1 := frac_cross f.b' f.n' k.d' hn.1 he.1 (by omega) (by omega)
  have hp := (prod_mul f.d' k.n' hd.1 hm.1 (by omega) (by omega)).plain
  have l1 : (wd (zv f.b' f.n' * (val k.d' : Int)).natAbs).length ≤ 134217728 := by
    rw [Int.natAbs_mul, zv_abs, Int.natAbs_natCast]
    exact wd_mul_len (Nat.le_trans (wd_len_of hn.1) hn.2) (Nat.le_trans (wd_len_of he.1) he.2)
  have l4 : (wd (val f.d' * val k.n')).length ≤ 134217728 := wd_mul_len (Nat.le_trans (wd_len_of hd.1) hd.2) (Nat.le_trans (wd_len_of hm.1) hm.2)
  have hkn : val k.n' ≠ 0 := by
    intro h; apply h0
    rw [fv', show zv k.b' k.n' = 0 by have := zv_abs k.b' k.n'; omega, Rat.zero_mkRat]
  have hc := frac_cancel (!(decide (zv f.b' f.n' * (val k.d' : Int) < 0) == k.b')) _ _ (wd_Wd (zv f.b' f.n' * (val k.d' : Int)).natAbs) (wd_Wd (val f.d' * val k.n')) (by omega) (by omega) (by
    rw [val_wd]; exact Nat.mul_ne_zero (d'_ne f) hkn)
  have ev : zv (!(decide (zv f.b' f.n' * (val k.d' : Int) < 0) == k.b')) (wd (zv f.b' f.n' * (val k.d' : Int)).natAbs) = (if k.b' then -1 else 1) * (zv f.b' f.n' * (val k.d' : Int)) := by
    generalize zv f.b' f.n' * (val k.d' : Int) = z
    unfold zv
    rw [val_wd]
    by_cases hz : z < 0 <;> cases k.b' <;> simp [hz] <;> omega
  rw [ev, val_wd, mkRat_quo _ (zv k.b' k.n') _ _ _ _ (d'_ne f) (d'_ne k) hkn (by unfold zv; cases k.b' <;> simp) (by cases k.b' <;> rfl), ← fv', ← fv'] at hc
  refine fq_p (frac_parts f (hf.mono (by omega))) (frac_parts k (hk.mono (by omega))) hs x1 hp hc ?_
  rw [beq_eq_false_iff_ne]
  intro h
  exact h0 (Rat.num_eq_zero.1 (Int.sign_eq_zero_iff_zero.1 h))
end Go.X
namespace Go.X
open Go Go.Proofs
noncomputable def B63 : Code := codeOf Tryz.f63
noncomputable def E63 : Env := EV PP 23 []
theorem D63 {args outs : List S} {gout : List (Nat × S)} {e : Fin} {res : S} (hg : Goes E63 B63 (entry 0 args) e gout) (he : e = .normal ∨ e = .ret) (hle : Nat.ble args.length 23 = true)
    (hfin : finE (tabOf PP) gout Tryz.f63.results.toList args [] = some (outs, res)) : Den PP 63 args outs res :=
  den_tab (fn := Tryz.f63) (c := B63) (by kernel_rfl) (by kernel_rfl) (by kernel_rfl) (by kernel_rfl) hle hfin hg he
noncomputable def L63a : Code := sub [true, true, false, false, false] B63
def sRN (a : List Nat) (k : Int) : List (Nat × S) := [(0, (W a)), (3, (num .i64 k))]
theorem rn_go {a : List Nat} {k j : Int}
    (h1 : (decide (k > (0:Int))) = true)
    (h2 : inR .i64 (k - (1:Int)))
    (h3 : idx a.length (k - (1:Int)))
    (h4 : ((a.getD (Int.toNat (k - (1:Int))) 0 : Int) == (0:Int)) = true)
    (h5 : (k - (1:Int)) = j) :
    Goes E63 L63a (sRN a k) .normal (sRN a j) :=
  pathG [.r [.b true, .b true, .b true, .b true, .b true, .b true] [0, 3, 15], .t true, .r [] [0, 3, 15]] ((cc h1 (cc h1 (cc h1 (cc h2 (cc h1 (cc h3 (cc h1 (cc h1 (cc tt (cc (bt false h1 h4) (cc h2 (cc (fq a.length 1 (wf a)) (cc h5 nn)))))))))))))) (by kernel_rfl)
theorem rn_stop {a : List Nat} {k : Int}
    (h1 : (decide (k > (0:Int))) = true)
    (h2 : inR .i64 (k - (1:Int)))
    (h3 : idx a.length (k - (1:Int)))
    (h4 : ((a.getD (Int.toNat (k - (1:Int))) 0 : Int) == (0:Int)) = false) :
    Goes E63 L63a (sRN a k) (.exit 0) (sRN a k) :=
  pathG [.r [.b true, .b true, .b true, .b true, .b true, .b true] [0, 3, 15], .t false] ((cc h1 (cc h1 (cc h1 (cc h2 (cc h1 (cc h3 (cc h1 (cc h1 (cc tt (cc (bt false h1 h4) (cc (fq a.length 1 (wf a)) (cc (er k) nn))))))))))))) (by kernel_rfl)
theorem rn_nil {a : List Nat} {k : Int}
    (h1 : (decide (k > (0:Int))) = false) :
    Goes E63 L63a (sRN a k) (.exit 0) (sRN a k) :=
  pathG [.r [.b false, .b false, .b false, .b false, .b false, .b false] [0, 3, 15], .t false] ((cc h1 (cc h1 (cc h1 (cc h1 (cc h1 (cc h1 (cc h1 (cc (er false) (cc (fq a.length 1 (wf a)) (cc (er k) nn))))))))))) (by kernel_rfl)
theorem rn_all {a r : List Nat} {k : Int}
    (h1 : Loops E63 L63a (sRN a (a.length : Int)) (.exit 0) (sRN a k))
    (h2 : 0 ≤ (0:Int) ∧ (0:Int) ≤ k ∧ k ≤ (a.length : Int))
    (h3 : room (0 + ((Int.toNat k) - (Int.toNat (0:Int)))) 4)
    (h4 : (0 + ((Int.toNat k) - (Int.toNat (0:Int)))) = r.length ∧ FEq (0 + ((Int.toNat k) - (Int.toNat (0:Int)))) 1 (appF 0 (fun _ _ => .v undef) (fun jq => (wf a) ((Int.toNat (0:Int)) + jq))) (wf r)) :
    Goes E63 B63 [(0, (W a))] .ret [(2, (WO r))] :=
  pathG [.r [] [0, 2], .r [] [0, 2, 3], .l (sRN a (a.length : Int)) (.exit 0) (sRN a k), .r [] [0, 2, 3]] ((cc (fq a.length 1 (wf a)) (cc (er (a.length : Int)) (cc h1 (cc h2 (cc h3 (cc h4 nn))))))) (by kernel_rfl)

theorem rn_loop (l : List Nat) (hl : l.length ≤ 140737488355328) : ∀ k, k ≤ l.length → Loops E63 L63a (sRN l (k : Int)) (.exit 0) (sRN l (tz l k : Int))
  | 0, _ => .leave (rn_nil (decide_eq_false (by omega))) (fun h => by cases h)
  | k + 1, hk => by
    have hd : decide (((k + 1 : Nat) : Int) > 0) = true := decide_eq_true (by omega)
    have he : Int.toNat (((k + 1 : Nat) : Int) - 1) = k := by omega
    by_cases h : l.getD k 0 = 0
    · have ht : tz l (k + 1) = tz l k := by simp only [tz, if_pos h]
      rw [ht]
      refine .again (rn_go (j := (k : Int)) hd (i64_ok (by omega) (by omega)) ⟨by omega, by omega⟩ ?_ (by omega)) (rn_loop l hl k (by omega))
      rw [he, h]; rfl
    · have ht : tz l (k + 1) = k + 1 := by simp only [tz, if_neg h]
      rw [ht]
      refine .leave (rn_stop hd (i64_ok (by omega) (by omega)) ⟨by omega, by omega⟩ ?_) (fun h => by cases h)
      rw [he]
      show ((l.getD k 0 : Int) == 0) = false
      rw [beq_eq_false_iff_ne]
      omega
theorem ref_norm (a : List Nat) (la : a.length ≤ 4294967296) :
    Den PP 63 [W a] [W a] (WO (trimL a)) := by
  refine D63 (gout := [(2, WO (trimL a))]) (e := .ret) ?_ (by first | exact .inr rfl | exact .inl rfl) (by kernel_rfl) (by kernel_rfl)

  have hz := tz_le a a.length
  have hlen : (trimL a).length = tz a a.length := by unfold trimL; rw [List.length_take]; omega
  refine rn_all (rn_loop a (by omega) a.length (Nat.le_refl _)) ⟨by omega, by omega, by omega⟩ ⟨by omega, by omega⟩ ⟨by omega, FEq.words fun j hj => ?_⟩
  have hb : Nat.blt j 0 = false := rfl
  simp only [appF, hb, cond_false, wf]
  have : (trimL a).getD j 0 = a.getD j 0 := by
    unfold trimL
    simp only [List.getD_eq_getElem?_getD]
    rw [List.getElem?_take_of_lt (by omega)]
  rw [this]
  congr 4
  omega
noncomputable def B70 : Code := codeOf Tryz.f70
noncomputable def E70 : Env := EV PP 11 []
theorem D70 {args outs : List S} {gout : List (Nat × S)} {e : Fin} {res : S} (hg : Goes E70 B70 (entry 0 args) e gout) (he : e = .normal ∨ e = .ret) (hle : Nat.ble args.length 11 = true)
    (hfin : finE (tabOf PP) gout Tryz.f70.results.toList args [] = some (outs, res)) : Den PP 70 args outs res :=
  den_tab (fn := Tryz.f70) (c := B70) (by kernel_rfl) (by kernel_rfl) (by kernel_rfl) (by kernel_rfl) hle hfin hg he
theorem rof_p {n : Nat} {a t : List Nat}
    (h1 : Den PP 63 [(W a)] [(W a)] (W t))
    (h2 : 0 ≤ ((n : Nat) : Int) ∧ 0 < (4294967296:Int))
    (h3 : 0 ≤ ((n : Nat) : Int) ∧ 0 < (4294967296:Int) ∧ (inR .u64 ((n : Nat) : Int)))
    (h4 : 2 = a.length ∧ FEq 2 1 (rowF 1 [(.d (.v (.int .u32 (wr .u32 (((n : Nat) : Int) % (4294967296:Int)))))), (.d (.v (.int .u32 (wr .u32 (((n : Nat) : Int) / (4294967296:Int))))))]) (wf a)) :
    Goes E70 B70 [(0, (num .u64 ((n : Nat) : Int)))] .ret [(2, (W t))] :=
  pathG [.r [] [0, 2], .r [.c [(W a)] [(W a)] (W t)] [0, 2]] ((cc h2 (cc tt (cc h3 (cc tt (cc h4 (cc h1 (cc (fq t.length 1 (wf t)) nn)))))))) (by kernel_rfl)
theorem ref_of (n : Nat) (hn : n < 18446744073709551616) :
    Den PP 70 [num .u64 (n : Int)] [num .u64 (n : Int)] (W (wd n)) := by
  refine D70 (gout := [(2, W (wd n))]) (e := .ret) ?_ (by first | exact .inr rfl | exact .inl rfl) (by kernel_rfl) (by kernel_rfl)

  have ho := (ref_norm (digs 2 n) (by rw [digs_len]; omega)).plain
  rw [trim_digs_lt (by omega)] at ho
  refine rof_p (a := digs 2 n) ho ?_ ?_ ?_
  all_goals first
    | exact ⟨by omega, by omega⟩
    | exact ⟨by omega, by omega, by show (0 : Int) ≤ _ ∧ _ ≤ (18446744073709551615 : Int); omega⟩
    | (refine ⟨rfl, FEq.words fun j hj => ?_⟩
       match j, hj with
       | 0, _ =>
         show D.v (.int .u32 (wr .u32 ((n : Int) % 4294967296))) = .v (.int .u32 ((n % 4294967296 : Nat) : Int))
         rw [wr32]; congr 2; omega
       | 1, _ =>
         show D.v (.int .u32 (wr .u32 ((n : Int) / 4294967296))) = .v (.int .u32 ((n / 4294967296 % 4294967296 : Nat) : Int))
         rw [wr32]; congr 2
       | j + 2, h => omega)
    | skip
noncomputable def B117 : Code := codeOf Tryz.f117
noncomputable def E117 : Env := EV PP 13 []
theorem D117 {args outs : List S} {gout : List (Nat × S)} {e : Fin} {res : S} (hg : Goes E117 B117 (entry 0 args) e gout) (he : e = .normal ∨ e = .ret) (hle : Nat.ble args.length 13 = true)
    (hfin : finE (tabOf PP) gout Tryz.f117.results.toList args [] = some (outs, res)) : Den PP 117 args outs res :=
  den_tab (fn := Tryz.f117) (c := B117) (by kernel_rfl) (by kernel_rfl) (by kernel_rfl) (by kernel_rfl) hle hfin hg he
theorem rat_in {a : List Nat} {i : Int} {x : Nat}
    (h1 : (decide (i < (a.length : Int))) = true)
    (h2 : idx a.length i)
    (h3 : (a.getD (Int.toNat i) 0 : Int) = ((x : Nat) : Int)) :
    Goes E117 B117 [(0, (W a)), (1, (num .i64 i))] .ret [(4, (u x))] :=
  pathG [.r [] [0, 1, 4], .r [] [0, 1, 4, 8], .t true, .r [] [0, 1, 4, 8]] ((cc h1 (cc h2 (cc h3 nn)))) (by kernel_rfl)
theorem rat_out {a : List Nat} {i : Int}
    (h1 : (decide (i < (a.length : Int))) = false) :
    Goes E117 B117 [(0, (W a)), (1, (num .i64 i))] .ret [(4, (u 0))] :=
  pathG [.r [] [0, 1, 4], .r [] [0, 1, 4, 8], .t false, .r [] [0, 1, 4, 8]] ((cc h1 (cc (er (0:Int)) nn))) (by kernel_rfl)
theorem ref_at (a : List Nat) (i : Nat) :
    Den PP 117 [W a, num .i64 (i : Int)] [W a, num .i64 (i : Int)] (u (a.getD i 0)) := by
  refine D117 (gout := [(4, u (a.getD i 0))]) (e := .ret) ?_ (by first | exact .inr rfl | exact .inl rfl) (by kernel_rfl) (by kernel_rfl)

  by_cases h : i < a.length
  · exact rat_in (decide_eq_true (by omega)) ⟨by omega, by omega⟩ rfl
  · have h0 : a.getD i 0 = 0 := by rw [List.getD_eq_getElem?_getD, List.getElem?_eq_none (by omega)]; rfl
    rw [h0]
    exact rat_out (decide_eq_false (by omega))
noncomputable def B108 : Code := codeOf Tryz.f108
noncomputable def E108 : Env := EV PP 30 []
theorem D108 {args outs : List S} {gout : List (Nat × S)} {e : Fin} {res : S} (hg : Goes E108 B108 (entry 0 args) e gout) (he : e = .normal ∨ e = .ret) (hle : Nat.ble args.length 30 = true)
    (hfin : finE (tabOf PP) gout Tryz.f108.results.toList args [] = some (outs, res)) : Den PP 108 args outs res :=
  den_tab (fn := Tryz.f108) (c := B108) (by kernel_rfl) (by kernel_rfl) (by kernel_rfl) (by kernel_rfl) hle hfin hg he
noncomputable def L108a : Code := sub [true, false, true, false, false] B108
def sRC (a b : List Nat) (i : Int) : List (Nat × S) := [(0, (W a)), (1, (W b)), (5, (num .i64 i))]
theorem rc_lt {a b : List Nat} {i : Int} {x y : Nat} 
    (h1 : Den PP 117 [(W a), (num .i64 i)] [(W a), (num .i64 i)] (u x))
    (h2 : Den PP 117 [(W b), (num .i64 i)] [(W b), (num .i64 i)] (u y))
    (h3 : (decide (i ≥ (0:Int))) = true)
    (h4 : (decide (((x : Nat) : Int) < ((y : Nat) : Int))) = true) :
    Goes E108 L108a (sRC a b i) .ret [(4, (num .i64 (-1:Int)))] :=
  pathG [.r [] [0, 1, 5, 15], .t true, .r [.c [(W a), (num .i64 i)] [(W a), (num .i64 i)] (u x)] [0, 1, 5, 6, 15], .r [.c [(W b), (num .i64 i)] [(W b), (num .i64 i)] (u y)] [0, 1, 5, 6, 7, 15], .r [] [0, 1, 5, 6, 7, 15, 26], .t true, .r [] [0, 1, 4, 5, 6, 7, 15, 26]] ((cc h3 (cc (fq a.length 1 (wf a)) (cc (er i) (cc h1 (cc (fq b.length 1 (wf b)) (cc (er i) (cc h2 (cc h4 (cc (er (-1:Int)) nn)))))))))) (by kernel_rfl)
theorem rc_gt {a b : List Nat} {i : Int} {x y : Nat} 
    (h1 : Den PP 117 [(W a), (num .i64 i)] [(W a), (num .i64 i)] (u x))
    (h2 : Den PP 117 [(W b), (num .i64 i)] [(W b), (num .i64 i)] (u y))
    (h3 : (decide (i ≥ (0:Int))) = true)
    (h4 : (decide (((x : Nat) : Int) < ((y : Nat) : Int))) = false)
    (h5 : (decide (((x : Nat) : Int) > ((y : Nat) : Int))) = true) :
    Goes E108 L108a (sRC a b i) .ret [(4, (num .i64 (1:Int)))] :=
  pathG [.r [] [0, 1, 5, 15], .t true, .r [.c [(W a), (num .i64 i)] [(W a), (num .i64 i)] (u x)] [0, 1, 5, 6, 15], .r [.c [(W b), (num .i64 i)] [(W b), (num .i64 i)] (u y)] [0, 1, 5, 6, 7, 15], .r [] [0, 1, 5, 6, 7, 15, 26], .t false, .r [] [0, 1, 5, 6, 7, 15, 26, 29], .t true, .r [] [0, 1, 4, 5, 6, 7, 15, 26, 29]] ((cc h3 (cc (fq a.length 1 (wf a)) (cc (er i) (cc h1 (cc (fq b.length 1 (wf b)) (cc (er i) (cc h2 (cc h4 (cc h5 (cc (er (1:Int)) nn))))))))))) (by kernel_rfl)
theorem rc_go {a b : List Nat} {i j : Int} {x y : Nat} 
    (h1 : Den PP 117 [(W a), (num .i64 i)] [(W a), (num .i64 i)] (u x))
    (h2 : Den PP 117 [(W b), (num .i64 i)] [(W b), (num .i64 i)] (u y))
    (h3 : (decide (i ≥ (0:Int))) = true)
    (h4 : (decide (((x : Nat) : Int) < ((y : Nat) : Int))) = false)
    (h5 : (decide (((x : Nat) : Int) > ((y : Nat) : Int))) = false)
    (h6 : inR .i64 (i - (1:Int)))
    (h7 : (i - (1:Int)) = j) :
    Goes E108 L108a (sRC a b i) .normal (sRC a b j) :=
  pathG [.r [] [0, 1, 5, 15], .t true, .r [.c [(W a), (num .i64 i)] [(W a), (num .i64 i)] (u x)] [0, 1, 5, 6, 15], .r [.c [(W b), (num .i64 i)] [(W b), (num .i64 i)] (u y)] [0, 1, 5, 6, 7, 15], .r [] [0, 1, 5, 6, 7, 15, 26], .t false, .r [] [0, 1, 5, 6, 7, 15, 26, 29], .t false, .r [] [0, 1, 5, 6, 7, 15, 26, 29]] ((cc h3 (cc (fq a.length 1 (wf a)) (cc (er i) (cc h1 (cc (fq b.length 1 (wf b)) (cc (er i) (cc h2 (cc h4 (cc h5 (cc h6 (cc (fq a.length 1 (wf a)) (cc (fq b.length 1 (wf b)) (cc h7 nn)))))))))))))) (by kernel_rfl)
theorem rc_end {a b : List Nat} {i : Int}  
    (h1 : (decide (i ≥ (0:Int))) = false) :
    Goes E108 L108a (sRC a b i) (.exit 0) (sRC a b i) :=
  pathG [.r [] [0, 1, 5, 15], .t false] ((cc h1 (cc (fq a.length 1 (wf a)) (cc (fq b.length 1 (wf b)) (cc (er i) nn))))) (by kernel_rfl)
theorem rc_ret {a b : List Nat} {i : Int}  {q : Int}
    (h1 : Loops E108 L108a (sRC a b i) .ret [(4, (num .i64 q))])
    (h2 : inR .i64 ((if (b.length : Int) > (a.length : Int) then (b.length : Int) else (a.length : Int)) - (1:Int)))
    (h3 : ((if (b.length : Int) > (a.length : Int) then (b.length : Int) else (a.length : Int)) - (1:Int)) = i) :
    Goes E108 B108 [(0, (W a)), (1, (W b))] .ret [(4, (num .i64 q))] :=
  pathG [.r [] [0, 1, 4], .r [] [0, 1, 4, 5], .l (sRC a b i) .ret [(4, (num .i64 q))]] ((cc h2 (cc (fq a.length 1 (wf a)) (cc (fq b.length 1 (wf b)) (cc h3 (cc h1 (cc (er q) nn))))))) (by kernel_rfl)
theorem rc_eq {a b : List Nat} {i j : Int}  
    (h1 : Loops E108 L108a (sRC a b i) (.exit 0) (sRC a b j))
    (h2 : inR .i64 ((if (b.length : Int) > (a.length : Int) then (b.length : Int) else (a.length : Int)) - (1:Int)))
    (h3 : ((if (b.length : Int) > (a.length : Int) then (b.length : Int) else (a.length : Int)) - (1:Int)) = i) :
    Goes E108 B108 [(0, (W a)), (1, (W b))] .ret [(4, (num .i64 (0:Int)))] :=
  pathG [.r [] [0, 1, 4], .r [] [0, 1, 4, 5], .l (sRC a b i) (.exit 0) (sRC a b j), .r [] [0, 1, 4, 5]] ((cc h2 (cc (fq a.length 1 (wf a)) (cc (fq b.length 1 (wf b)) (cc h3 (cc h1 (cc (er (0:Int)) nn))))))) (by kernel_rfl)

theorem rc_loop (a b : List Nat) (ha : Wd a) (hb : Wd b) : ∀ k, k ≤ 4294967296 →
    (cmp3 (val (a.take k)) (val (b.take k)) = 0 ∧ Loops E108 L108a (sRC a b ((k : Int) - 1)) (.exit 0) (sRC a b (-1))) ∨ (cmp3 (val (a.take k)) (val (b.take k)) ≠ 0 ∧ Loops E108 L108a (sRC a b ((k : Int) - 1)) .ret [(4, num .i64 (cmp3 (val (a.take k)) (val (b.take k))))])
  | 0, _ => .inl ⟨by simp [val, cmp3], .leave (rc_end (decide_eq_false (by omega))) (fun h => by cases h)⟩
  | k + 1, hk => by
    have e : ((k + 1 : Nat) : Int) - 1 = (k : Int) := by omega
    rw [e]
    have r1 := ref_at a k
    have r2 := ref_at b k
    have h1 := val_take_lt ha k
    have h2 := val_take_lt hb k
    have c1 := val_take_succ a k
    have c2 := val_take_succ b k
    have hd : decide ((k : Int) ≥ 0) = true := decide_eq_true (by omega)
    rcases Nat.lt_trichotomy (a.getD k 0) (b.getD k 0) with h | h | h
    · right
      have : 4294967296 ^ k * (a.getD k 0 + 1) ≤ 4294967296 ^ k * b.getD k 0 := Nat.mul_le_mul_left _ h
      rw [Nat.mul_add, Nat.mul_one] at this
      have hc : cmp3 (val (a.take (k + 1))) (val (b.take (k + 1))) = -1 := by unfold cmp3; rw [if_pos (by omega)]
      rw [hc]
      exact ⟨by omega, .leave (rc_lt r1 r2 hd (decide_eq_true (by omega))) (fun h => by cases h)⟩
    · have hc : cmp3 (val (a.take (k + 1))) (val (b.take (k + 1))) = cmp3 (val (a.take k)) (val (b.take k)) := by
        rw [c1, c2, h]; unfold cmp3; simp only [Nat.add_lt_add_iff_right]
      rw [hc]
      have go := rc_go (i := (k : Int)) (j := (k : Int) - 1) r1 r2 hd (decide_eq_false (by omega)) (decide_eq_false (by omega)) (i64_ok (by omega) (by omega)) rfl
      rcases rc_loop a b ha hb k (by omega) with ⟨h1, h2⟩ | ⟨h1, h2⟩
      · exact .inl ⟨h1, .again go h2⟩
      · exact .inr ⟨h1, .again go h2⟩
    · right
      have : 4294967296 ^ k * (b.getD k 0 + 1) ≤ 4294967296 ^ k * a.getD k 0 := Nat.mul_le_mul_left _ h
      rw [Nat.mul_add, Nat.mul_one] at this
      have hc : cmp3 (val (a.take (k + 1))) (val (b.take (k + 1))) = 1 := by unfold cmp3; rw [if_neg (by omega), if_pos (by omega)]
      rw [hc]
      exact ⟨by omega, .leave (rc_gt r1 r2 hd (decide_eq_false (by omega)) (decide_eq_true (by omega))) (fun h => by cases h)⟩
theorem ref_cmp (a b : List Nat) (ha : Wd a) (hb : Wd b) (la : a.length ≤ 4294967296) (lb : b.length ≤ 4294967296) :
    Den PP 108 [W a, W b] [W a, W b] (num .i64 (cmp3 (val a) (val b))) := by
  refine D108 (gout := [(4, num .i64 (cmp3 (val a) (val b)))]) (e := .ret) ?_ (by first | exact .inr rfl | exact .inl rfl) (by kernel_rfl) (by kernel_rfl)

  have h := rc_loop a b ha hb (max a.length b.length) (by omega)
  rw [List.take_of_length_le (by omega), List.take_of_length_le (by omega)] at h
  have hm : (if (b.length : Int) > (a.length : Int) then (b.length : Int) else (a.length : Int)) = ((max a.length b.length : Nat) : Int) := by split <;> omega
  rcases h with ⟨h1, h2⟩ | ⟨h1, h2⟩
  · rw [h1]
    refine rc_eq h2 ?_ ?_
    · rw [hm]; exact i64_ok (by omega) (by omega)
    · rw [hm]
  · refine rc_ret h2 ?_ ?_
    · rw [hm]; exact i64_ok (by omega) (by omega)
    · rw [hm]
noncomputable def B120 : Code := codeOf Tryz.f120
noncomputable def E120 : Env := EV PP 26 []
theorem D120 {args outs : List S} {gout : List (Nat × S)} {e : Fin} {res : S} (hg : Goes E120 B120 (entry 0 args) e gout) (he : e = .normal ∨ e = .ret) (hle : Nat.ble args.length 26 = true)
    (hfin : finE (tabOf PP) gout Tryz.f120.results.toList args [] = some (outs, res)) : Den PP 120 args outs res :=
  den_tab (fn := Tryz.f120) (c := B120) (by kernel_rfl) (by kernel_rfl) (by kernel_rfl) (by kernel_rfl) hle hfin hg he
noncomputable def L120a : Code := sub [true, true, false, true, false, false] B120
def sRS (a b : List Nat) (i : Nat) : List (Nat × S) := [(0, (W a)), (1, (W b)), (5, (num .i64 ((i : Nat) : Int)))]
theorem rs_ne {a b : List Nat} 
    (h1 : ((a.length : Int) != (b.length : Int)) = true) :
    Goes E120 B120 [(0, (W a)), (1, (W b))] .ret [(4, (bl false))] :=
  pathG [.r [] [0, 1, 4], .r [] [0, 1, 4, 10], .t true, .r [] [0, 1, 4, 10]] ((cc h1 (cc (er false) nn))) (by kernel_rfl)
theorem rs_ret {a b : List Nat} 
    (h1 : Loops E120 L120a (sRS a b 0) .ret [(4, (bl false))])
    (h2 : ((a.length : Int) != (b.length : Int)) = false) :
    Goes E120 B120 [(0, (W a)), (1, (W b))] .ret [(4, (bl false))] :=
  pathG [.r [] [0, 1, 4], .r [] [0, 1, 4, 10], .t false, .r [] [0, 1, 4, 5, 10], .l (sRS a b 0) .ret [(4, (bl false))]] ((cc h2 (cc (fq a.length 1 (wf a)) (cc (fq b.length 1 (wf b)) (cc (er (0:Int)) (cc h1 (cc (er false) nn))))))) (by kernel_rfl)
theorem rs_all {a b : List Nat} 
    (h1 : Loops E120 L120a (sRS a b 0) (.exit 0) (sRS a b a.length))
    (h2 : ((a.length : Int) != (b.length : Int)) = false) :
    Goes E120 B120 [(0, (W a)), (1, (W b))] .ret [(4, (bl true))] :=
  pathG [.r [] [0, 1, 4], .r [] [0, 1, 4, 10], .t false, .r [] [0, 1, 4, 5, 10], .l (sRS a b 0) (.exit 0) (sRS a b a.length), .r [] [0, 1, 4, 5]] ((cc h2 (cc (fq a.length 1 (wf a)) (cc (fq b.length 1 (wf b)) (cc (er (0:Int)) (cc h1 (cc (er true) nn))))))) (by kernel_rfl)
theorem rs_go {a b : List Nat} {i : Nat}
    (h1 : (decide (((i : Nat) : Int) < (a.length : Int))) = true)
    (h2 : idx a.length ((i : Nat) : Int))
    (h3 : idx b.length ((i : Nat) : Int))
    (h4 : ((a.getD (Int.toNat ((i : Nat) : Int)) 0 : Int) != (b.getD (Int.toNat ((i : Nat) : Int)) 0 : Int)) = false)
    (h5 : inR .i64 (((i : Nat) : Int) + (1:Int)))
    (h6 : (((i : Nat) : Int) + (1:Int)) = ((i + 1 : Nat) : Int)) :
    Goes E120 L120a (sRS a b i) .normal (sRS a b (i + 1)) :=
  pathG [.r [] [0, 1, 5, 14], .t true, .r [] [0, 1, 5, 14, 25], .t false, .r [] [0, 1, 5, 14, 25]] ((cc h1 (cc h2 (cc h3 (cc h4 (cc h5 (cc (fq a.length 1 (wf a)) (cc (fq b.length 1 (wf b)) (cc h6 nn))))))))) (by kernel_rfl)
theorem rs_no {a b : List Nat} {i : Nat}
    (h1 : (decide (((i : Nat) : Int) < (a.length : Int))) = true)
    (h2 : idx a.length ((i : Nat) : Int))
    (h3 : idx b.length ((i : Nat) : Int))
    (h4 : ((a.getD (Int.toNat ((i : Nat) : Int)) 0 : Int) != (b.getD (Int.toNat ((i : Nat) : Int)) 0 : Int)) = true) :
    Goes E120 L120a (sRS a b i) .ret [(4, (bl false))] :=
  pathG [.r [] [0, 1, 5, 14], .t true, .r [] [0, 1, 5, 14, 25], .t true, .r [] [0, 1, 4, 5, 14, 25]] ((cc h1 (cc h2 (cc h3 (cc h4 (cc (er false) nn)))))) (by kernel_rfl)
theorem rs_end {a b : List Nat} {i : Nat}
    (h1 : (decide (((i : Nat) : Int) < (a.length : Int))) = false) :
    Goes E120 L120a (sRS a b i) (.exit 0) (sRS a b i) :=
  pathG [.r [] [0, 1, 5, 14], .t false] ((cc h1 (cc (fq a.length 1 (wf a)) (cc (fq b.length 1 (wf b)) (cc (er ((i : Nat) : Int)) nn))))) (by kernel_rfl)

theorem rs_loop (a b : List Nat) (he : a.length = b.length) (la : a.length ≤ 140737488355328) : ∀ (j i : Nat), i + j = a.length → a.take i = b.take i →
    (a = b ∧ Loops E120 L120a (sRS a b i) (.exit 0) (sRS a b a.length)) ∨ (a ≠ b ∧ Loops E120 L120a (sRS a b i) .ret [(4, bl false)])
  | 0, i, hi, ht => by
    have : i = a.length := by omega
    subst this
    rw [List.take_length, he, List.take_length] at ht
    exact .inl ⟨ht, .leave (rs_end (decide_eq_false (by omega))) (fun h => by cases h)⟩
  | j + 1, i, hi, ht => by
    by_cases h : a.getD i 0 = b.getD i 0
    · have ht' : a.take (i + 1) = b.take (i + 1) := by
        rw [List.getD_eq_getElem?_getD, List.getD_eq_getElem?_getD, List.getElem?_eq_getElem (by omega), List.getElem?_eq_getElem (by omega)] at h
        rw [List.take_succ_eq_append_getElem (by omega), List.take_succ_eq_append_getElem (by omega), ht]
        simp only [Option.getD_some] at h
        rw [h]
      have go := rs_go (a := a) (b := b) (i := i) (decide_eq_true (by omega)) ⟨by omega, by omega⟩ ⟨by omega, by omega⟩ (by show (((a.getD i 0 : Nat) : Int) != ((b.getD i 0 : Nat) : Int)) = false; rw [h]; simp) (i64_ok (by omega) (by omega)) (by omega)
      rcases rs_loop a b he la j (i + 1) (by omega) ht' with ⟨h1, h2⟩ | ⟨h1, h2⟩
      · exact .inl ⟨h1, .again go h2⟩
      · exact .inr ⟨h1, .again go h2⟩
    · refine .inr ⟨fun hab => h (by rw [hab]), .leave (rs_no (decide_eq_true (by omega)) ⟨by omega, by omega⟩ ⟨by omega, by omega⟩ ?_) (fun h => by cases h)⟩
      show (((a.getD i 0 : Nat) : Int) != ((b.getD i 0 : Nat) : Int)) = true
      simp only [bne_iff_ne, ne_eq]; omega
theorem ref_same (a b : List Nat) (la : a.length ≤ 140737488355328) :
    Den PP 120 [W a, W b] [W a, W b] (bl (decide (a = b))) := by
  refine D120 (gout := [(4, bl (decide (a = b)))]) (e := .ret) ?_ (by first | exact .inr rfl | exact .inl rfl) (by kernel_rfl) (by kernel_rfl)

  by_cases he : a.length = b.length
  · have hne : ((a.length : Int) != (b.length : Int)) = false := by rw [he]; simp
    rcases rs_loop a b he la a.length 0 (by omega) rfl with ⟨h1, h2⟩ | ⟨h1, h2⟩
    · rw [decide_eq_true h1]; exact rs_all h2 hne
    · rw [decide_eq_false h1]; exact rs_ret h2 hne
  · rw [decide_eq_false (fun h => he (by rw [h]))]
    refine rs_ne ?_
    simp only [bne_iff_ne, ne_eq]; omega
end Go.X
