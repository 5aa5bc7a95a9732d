/- Part 24 of the proof of BackSums: Paths and contracts. Rows of fractions: what appending and setting make of them. No conditions but those that each theorem names. -/
import Derived.Test.YthmecihkgdaffaaGreatDoorP23
namespace Go.X
open Go Go.Proofs
theorem Ok.of {K : Nat} {b : Bool} {n d : List Nat} (h1 : Wd n) (h2 : Wd d) (l1 : n.length ≤ K) (l2 : d.length ≤ K) : Ok K ⟨b, n, d⟩ := ⟨h1, h2, l1, l2⟩
noncomputable def B58 : Code := codeOf Tryz.f58
noncomputable def E58 : Env := EV PP 22 []
theorem D58 {args outs : List S} {gout : List (Nat × S)} {e : Fin} {res : S} (hg : Goes E58 B58 (entry 0 args) e gout) (he : e = .normal ∨ e = .ret) (hle : Nat.ble args.length 22 = true)
    (hfin : finE (tabOf PP) gout Tryz.f58.results.toList args [] = some (outs, res)) : Den PP 58 args outs res :=
  den_tab (fn := Tryz.f58) (c := B58) (by kernel_rfl) (by kernel_rfl) (by kernel_rfl) (by kernel_rfl) hle hfin hg he
theorem r9m_p {c : Bool} {n m y r : List Nat} {f k : Fq}  
    (h1 : Den PP 71 [(W f.n), (W k.n)] [(W f.n), (W k.n)] (W n))
    (h2 : Den PP 71 [(W f.d), (W k.d)] [(W f.d), (W k.d)] (W m))
    (h3 : Den PP 19 [(FS ⟨(!(f.neg == k.neg)), n, m⟩)] [(FS ⟨(!(f.neg == k.neg)), n, m⟩)] (FS ⟨c, r, y⟩)) :
    Goes E58 B58 [(0, (FS f)), (1, (FS k))] .ret [(4, (BX 34 (FS ⟨c, r, y⟩)))] :=
  pathG [.r [] [0, 1, 2, 3, 4], .r [.c [(W f.n), (W k.n)] [(W f.n), (W k.n)] (W n), .c [(W f.d), (W k.d)] [(W f.d), (W k.d)] (W m), .c [(FS ⟨(!(f.neg == k.neg)), n, m⟩)] [(FS ⟨(!(f.neg == k.neg)), n, m⟩)] (FS ⟨c, r, y⟩)] [0, 1, 2, 3, 4]] ((cc (fq f.n.length 1 (wf f.n)) (cc (fq k.n.length 1 (wf k.n)) (cc h1 (cc (fq f.d.length 1 (wf f.d)) (cc (fq k.d.length 1 (wf k.d)) (cc h2 (cc (er (!(f.neg == k.neg))) (cc (fq n.length 1 (wf n)) (cc (fq m.length 1 (wf m)) (cc h3 (cc (er c) (cc (fq r.length 1 (wf r)) (cc (fq y.length 1 (wf y)) nn)))))))))))))) (by kernel_rfl)
theorem ref9_mul (f k : Fq) (hf : Ok 33554432 f) (hk : Ok 33554432 k) :
    Den PP 58 [FS f, FS k] [FS f, FS k] (FS (rq (fv f * fv k))) := by
  refine D58 (gout := [(4, BX 34 (FS (rq (fv f * fv k))))]) (e := .ret) ?_ (by first | exact .inr rfl | exact .inl rfl) (by kernel_rfl) (by kernel_rfl)

  have x1 := (ref_mul f.n k.n hf.wn hk.wn (Nat.le_trans hf.ln (by omega)) (Nat.le_trans hk.ln (by omega))).plain
  have x2 := (ref_mul f.d k.d hf.wd hk.wd (Nat.le_trans hf.ld (by omega)) (Nat.le_trans hk.ld (by omega))).plain
  have l1 : (wd (val f.n * val k.n)).length ≤ 67108864 := wd_mul_len (Nat.le_trans (wd_len_of hf.wn) hf.ln) (Nat.le_trans (wd_len_of hk.wn) hk.ln)
  have l2 : (wd (val f.d * val k.d)).length ≤ 67108864 := wd_mul_len (Nat.le_trans (wd_len_of hf.wd) hf.ld) (Nat.le_trans (wd_len_of hk.wd) hk.ld)
  have hn := ref9_norm ⟨!(f.neg == k.neg), wd (val f.n * val k.n), wd (val f.d * val k.d)⟩ (Ok.of (wd_Wd _) (wd_Wd _) (by omega) (by omega))
  have hq : fv ⟨!(f.neg == k.neg), wd (val f.n * val k.n), wd (val f.d * val k.d)⟩ = fv f * fv k := by
    unfold fv zv
    rw [Rat.mkRat_mul_mkRat]
    simp only [val_wd]
    congr 1
    cases f.neg <;> cases k.neg <;> simp [Int.neg_mul, Int.mul_neg]
  rw [hq] at hn
  exact r9m_p x1 x2 hn
noncomputable def B157 : Code := codeOf Tryz.f157
noncomputable def E157 : Env := EV PP 22 []
theorem D157 {args outs : List S} {gout : List (Nat × S)} {e : Fin} {res : S} (hg : Goes E157 B157 (entry 0 args) e gout) (he : e = .normal ∨ e = .ret) (hle : Nat.ble args.length 22 = true)
    (hfin : finE (tabOf PP) gout Tryz.f157.results.toList args [] = some (outs, res)) : Den PP 157 args outs res :=
  den_tab (fn := Tryz.f157) (c := B157) (by kernel_rfl) (by kernel_rfl) (by kernel_rfl) (by kernel_rfl) hle hfin hg he
theorem r9q_p {c : Bool} {n m y r : List Nat} {f k : Fq}  
    (h1 : Den PP 71 [(W f.n), (W k.d)] [(W f.n), (W k.d)] (W n))
    (h2 : Den PP 71 [(W f.d), (W k.n)] [(W f.d), (W k.n)] (W m))
    (h3 : Den PP 19 [(FS ⟨(!(f.neg == k.neg)), n, m⟩)] [(FS ⟨(!(f.neg == k.neg)), n, m⟩)] (FS ⟨c, r, y⟩)) :
    Goes E157 B157 [(0, (FS f)), (1, (FS k))] .ret [(4, (BX 34 (FS ⟨c, r, y⟩)))] :=
  pathG [.r [] [0, 1, 2, 3, 4], .r [.c [(W f.n), (W k.d)] [(W f.n), (W k.d)] (W n), .c [(W f.d), (W k.n)] [(W f.d), (W k.n)] (W m), .c [(FS ⟨(!(f.neg == k.neg)), n, m⟩)] [(FS ⟨(!(f.neg == k.neg)), n, m⟩)] (FS ⟨c, r, y⟩)] [0, 1, 2, 3, 4]] ((cc (fq f.n.length 1 (wf f.n)) (cc (fq k.d.length 1 (wf k.d)) (cc h1 (cc (fq f.d.length 1 (wf f.d)) (cc (fq k.n.length 1 (wf k.n)) (cc h2 (cc (er (!(f.neg == k.neg))) (cc (fq n.length 1 (wf n)) (cc (fq m.length 1 (wf m)) (cc h3 (cc (er c) (cc (fq r.length 1 (wf r)) (cc (fq y.length 1 (wf y)) nn)))))))))))))) (by kernel_rfl)

theorem zv_sg (b : Bool) (l : List Nat) : zv b l = (if b then -1 else 1) * (val l : Int) := by unfold zv; cases b <;> simp
theorem ref9_quo (f k : Fq) (hf : Ok 33554432 f) (hk : Ok 33554432 k) (f0 : val f.d ≠ 0) (k0 : val k.d ≠ 0) (h0 : fv k ≠ 0) :
    Den PP 157 [FS f, FS k] [FS f, FS k] (FS (rq (fv f / fv k))) := by
  refine D157 (gout := [(4, BX 34 (FS (rq (fv f / fv k))))]) (e := .ret) ?_ (by first | exact .inr rfl | exact .inl rfl) (by kernel_rfl) (by kernel_rfl)

  have x1 := (ref_mul f.n k.d hf.wn hk.wd (Nat.le_trans hf.ln (by omega)) (Nat.le_trans hk.ld (by omega))).plain
  have x2 := (ref_mul f.d k.n hf.wd hk.wn (Nat.le_trans hf.ld (by omega)) (Nat.le_trans hk.ln (by omega))).plain
  have l1 : (wd (val f.n * val k.d)).length ≤ 67108864 := wd_mul_len (Nat.le_trans (wd_len_of hf.wn) hf.ln) (Nat.le_trans (wd_len_of hk.wd) hk.ld)
  have l2 : (wd (val f.d * val k.n)).length ≤ 67108864 := wd_mul_len (Nat.le_trans (wd_len_of hf.wd) hf.ld) (Nat.le_trans (wd_len_of hk.wn) hk.ln)
  have hn := ref9_norm ⟨!(f.neg == k.neg), wd (val f.n * val k.d), wd (val f.d * val k.n)⟩ (Ok.of (wd_Wd _) (wd_Wd _) (by omega) (by omega))
  have hkn : val k.n ≠ 0 := by
    intro h; apply h0
    unfold fv zv; rw [h]; cases k.neg <;> simp
  have hq : fv ⟨!(f.neg == k.neg), wd (val f.n * val k.d), wd (val f.d * val k.n)⟩ = fv f / fv k := by
    unfold fv
    rw [← mkRat_quo (zv f.neg f.n) (zv k.neg k.n) (if k.neg then -1 else 1) _ _ _ f0 k0 hkn (zv_sg _ _ |>.trans rfl) (by cases k.neg <;> rfl)]
    simp only [val_wd]
    congr 1
    unfold zv
    simp only [val_wd]
    cases f.neg <;> cases k.neg <;> simp [Int.neg_mul, Int.mul_neg]
  rw [hq] at hn
  exact r9q_p x1 x2 hn
noncomputable def B29 : Code := codeOf Tryz.f29
noncomputable def E29 : Env := EV PP 38 []
theorem D29 {args outs : List S} {gout : List (Nat × S)} {e : Fin} {res : S} (hg : Goes E29 B29 (entry 0 args) e gout) (he : e = .normal ∨ e = .ret) (hle : Nat.ble args.length 38 = true)
    (hfin : finE (tabOf PP) gout Tryz.f29.results.toList args [] = some (outs, res)) : Den PP 29 args outs res :=
  den_tab (fn := Tryz.f29) (c := B29) (by kernel_rfl) (by kernel_rfl) (by kernel_rfl) (by kernel_rfl) hle hfin hg he
theorem r9a_p {t c : Bool} {n m g y r w : List Nat} {f k : Fq}  
    (h1 : Den PP 71 [(W f.n), (W k.d)] [(W f.n), (W k.d)] (W n))
    (h2 : Den PP 71 [(W k.n), (W f.d)] [(W k.n), (W f.d)] (W m))
    (h3 : Den PP 72 [(ZS f.neg n), (ZS k.neg m)] [(ZS f.neg n), (ZS k.neg m)] (ZS t g))
    (h4 : Den PP 71 [(W f.d), (W k.d)] [(W f.d), (W k.d)] (W w))
    (h5 : Den PP 19 [(FS ⟨t, g, w⟩)] [(FS ⟨t, g, w⟩)] (FS ⟨c, r, y⟩)) :
    Goes E29 B29 [(0, (FS f)), (1, (FS k))] .ret [(4, (BX 34 (FS ⟨c, r, y⟩)))] :=
  pathG [.r [] [0, 1, 2, 3, 4], .r [.c [(W f.n), (W k.d)] [(W f.n), (W k.d)] (W n)] [0, 1, 2, 3, 4, 5], .r [.c [(W k.n), (W f.d)] [(W k.n), (W f.d)] (W m)] [0, 1, 2, 3, 4, 5, 6], .r [.c [(ZS f.neg n), (ZS k.neg m)] [(ZS f.neg n), (ZS k.neg m)] (ZS t g)] [0, 1, 2, 3, 4, 5, 6, 7], .r [.c [(W f.d), (W k.d)] [(W f.d), (W k.d)] (W w), .c [(FS ⟨t, g, w⟩)] [(FS ⟨t, g, w⟩)] (FS ⟨c, r, y⟩)] [0, 1, 2, 3, 4, 5, 6, 7]] ((cc (fq f.n.length 1 (wf f.n)) (cc (fq k.d.length 1 (wf k.d)) (cc h1 (cc (fq k.n.length 1 (wf k.n)) (cc (fq f.d.length 1 (wf f.d)) (cc h2 (cc (er f.neg) (cc (fq n.length 1 (wf n)) (cc (er k.neg) (cc (fq m.length 1 (wf m)) (cc h3 (cc (fq f.d.length 1 (wf f.d)) (cc (fq k.d.length 1 (wf k.d)) (cc h4 (cc (er t) (cc (fq g.length 1 (wf g)) (cc (fq w.length 1 (wf w)) (cc h5 (cc (er c) (cc (fq r.length 1 (wf r)) (cc (fq y.length 1 (wf y)) nn)))))))))))))))))))))) (by kernel_rfl)
theorem ref9_add (f k : Fq) (hf : Ok 33554432 f) (hk : Ok 33554432 k) (f0 : val f.d ≠ 0) (k0 : val k.d ≠ 0) :
    Den PP 29 [FS f, FS k] [FS f, FS k] (FS (rq (fv f + fv k))) := by
  refine D29 (gout := [(4, BX 34 (FS (rq (fv f + fv k))))]) (e := .ret) ?_ (by first | exact .inr rfl | exact .inl rfl) (by kernel_rfl) (by kernel_rfl)

  have x1 := (ref_mul f.n k.d hf.wn hk.wd (Nat.le_trans hf.ln (by omega)) (Nat.le_trans hk.ld (by omega))).plain
  have x2 := (ref_mul k.n f.d hk.wn hf.wd (Nat.le_trans hk.ln (by omega)) (Nat.le_trans hf.ld (by omega))).plain
  have x3 := (ref_mul f.d k.d hf.wd hk.wd (Nat.le_trans hf.ld (by omega)) (Nat.le_trans hk.ld (by omega))).plain
  have l1 : (wd (val f.n * val k.d)).length ≤ 67108864 := wd_mul_len (Nat.le_trans (wd_len_of hf.wn) hf.ln) (Nat.le_trans (wd_len_of hk.wd) hk.ld)
  have l2 : (wd (val k.n * val f.d)).length ≤ 67108864 := wd_mul_len (Nat.le_trans (wd_len_of hk.wn) hk.ln) (Nat.le_trans (wd_len_of hf.wd) hf.ld)
  have l3 : (wd (val f.d * val k.d)).length ≤ 67108864 := wd_mul_len (Nat.le_trans (wd_len_of hf.wd) hf.ld) (Nat.le_trans (wd_len_of hk.wd) hk.ld)
  have ad := ref8_add f.neg k.neg _ _ (wd_Wd (val f.n * val k.d)) (wd_Wd (val k.n * val f.d)) (by omega) (by omega)
  generalize hz : zv f.neg (wd (val f.n * val k.d)) + zv k.neg (wd (val k.n * val f.d)) = Z at ad
  have lz : (wd Z.natAbs).length ≤ 67108865 := by
    rw [← hz]
    exact wd_add_len (by rw [zv_abs, val_wd]; exact l1) (by rw [zv_abs, val_wd]; exact l2)
  have hn := ref9_norm ⟨decide (Z < 0), wd Z.natAbs, wd (val f.d * val k.d)⟩ (Ok.of (wd_Wd _) (wd_Wd _) (by omega) (by omega))
  have hq : fv ⟨decide (Z < 0), wd Z.natAbs, wd (val f.d * val k.d)⟩ = fv f + fv k := by
    unfold fv
    rw [Rat.mkRat_add_mkRat _ _ f0 k0]
    simp only [zv_wd, val_wd]
    congr 1
    rw [← hz]
    unfold zv
    simp only [val_wd]
    cases f.neg <;> cases k.neg <;> simp [Int.neg_mul]
  rw [hq] at hn
  exact r9a_p x1 x2 ad x3 hn
noncomputable def B156 : Code := codeOf Tryz.f156
noncomputable def E156 : Env := EV PP 12 []
theorem D156 {args outs : List S} {gout : List (Nat × S)} {e : Fin} {res : S} (hg : Goes E156 B156 (entry 0 args) e gout) (he : e = .normal ∨ e = .ret) (hle : Nat.ble args.length 12 = true)
    (hfin : finE (tabOf PP) gout Tryz.f156.results.toList args [] = some (outs, res)) : Den PP 156 args outs res :=
  den_tab (fn := Tryz.f156) (c := B156) (by kernel_rfl) (by kernel_rfl) (by kernel_rfl) (by kernel_rfl) hle hfin hg he
theorem r9n_p {c : Bool} {y r : List Nat} {f : Fq}  
    (h1 : Den PP 19 [(FS ⟨(!f.neg), f.n, f.d⟩)] [(FS ⟨(!f.neg), f.n, f.d⟩)] (FS ⟨c, r, y⟩)) :
    Goes E156 B156 [(0, (FS f))] .ret [(2, (BX 34 (FS ⟨c, r, y⟩)))] :=
  pathG [.r [] [0, 1, 2], .r [.c [(FS ⟨(!f.neg), f.n, f.d⟩)] [(FS ⟨(!f.neg), f.n, f.d⟩)] (FS ⟨c, r, y⟩)] [0, 1, 2]] ((cc (er (!f.neg)) (cc (fq f.n.length 1 (wf f.n)) (cc (fq f.d.length 1 (wf f.d)) (cc h1 (cc (er c) (cc (fq r.length 1 (wf r)) (cc (fq y.length 1 (wf y)) nn)))))))) (by kernel_rfl)
theorem ref9_neg (f : Fq) (hf : Ok 33554432 f) :
    Den PP 156 [FS f] [FS f] (FS (rq (-fv f))) := by
  refine D156 (gout := [(2, BX 34 (FS (rq (-fv f))))]) (e := .ret) ?_ (by first | exact .inr rfl | exact .inl rfl) (by kernel_rfl) (by kernel_rfl)

  have hn := ref9_norm ⟨!f.neg, f.n, f.d⟩ ⟨hf.wn, hf.wd, Nat.le_trans hf.ln (by omega), Nat.le_trans hf.ld (by omega)⟩
  have hq : fv ⟨!f.neg, f.n, f.d⟩ = -fv f := by
    unfold fv zv
    rw [Rat.neg_mkRat]
    cases f.neg <;> simp
  rw [hq] at hn
  exact r9n_p hn

theorem wd_len_64 {n : Nat} (h : n < 18446744073709551616) : (wd n).length ≤ 2 := wd_len_le (by show n < 18446744073709551616; omega)
theorem i64_in {n : Int} (h1 : -9223372036854775808 ≤ n) (h2 : n ≤ 9223372036854775807) : inR .i64 n := ⟨h1, h2⟩
theorem rq_d0 (q : Rat) : val (rq q).d ≠ 0 := by
  show val (wd q.den) ≠ 0
  rw [val_wd]; exact q.den_nz
noncomputable def B154 : Code := codeOf Tryz.f154
noncomputable def E154 : Env := EV PP 9 []
theorem D154 {args outs : List S} {gout : List (Nat × S)} {e : Fin} {res : S} (hg : Goes E154 B154 (entry 0 args) e gout) (he : e = .normal ∨ e = .ret) (hle : Nat.ble args.length 9 = true)
    (hfin : finE (tabOf PP) gout Tryz.f154.results.toList args [] = some (outs, res)) : Den PP 154 args outs res :=
  den_tab (fn := Tryz.f154) (c := B154) (by kernel_rfl) (by kernel_rfl) (by kernel_rfl) (by kernel_rfl) hle hfin hg he
theorem r9s_p {c : Bool} {y r : List Nat} {f k l : Fq}  
    (h1 : Den PP 156 [(FS k)] [(FS k)] (FS l))
    (h2 : Den PP 29 [(FS f), (FS l)] [(FS f), (FS l)] (FS ⟨c, r, y⟩)) :
    Goes E154 B154 [(0, (FS f)), (1, (FS k))] .ret [(4, (BX 34 (FS ⟨c, r, y⟩)))] :=
  pathG [.r [] [0, 1, 2, 3, 4], .r [.c [(FS k)] [(FS k)] (FS l), .c [(FS f), (FS l)] [(FS f), (FS l)] (FS ⟨c, r, y⟩)] [0, 1, 2, 3, 4]] ((cc (er k.neg) (cc (fq k.n.length 1 (wf k.n)) (cc (fq k.d.length 1 (wf k.d)) (cc h1 (cc (er f.neg) (cc (fq f.n.length 1 (wf f.n)) (cc (fq f.d.length 1 (wf f.d)) (cc (er l.neg) (cc (fq l.n.length 1 (wf l.n)) (cc (fq l.d.length 1 (wf l.d)) (cc h2 (cc (er c) (cc (fq r.length 1 (wf r)) (cc (fq y.length 1 (wf y)) nn))))))))))))))) (by kernel_rfl)
theorem ref9_sub (f k : Fq) (hf : Ok 33554432 f) (hk : Ok 33554432 k) (hk2 : Ok 33554432 (rq (-fv k))) (f0 : val f.d ≠ 0) :
    Den PP 154 [FS f, FS k] [FS f, FS k] (FS (rq (fv f - fv k))) := by
  refine D154 (gout := [(4, BX 34 (FS (rq (fv f - fv k))))]) (e := .ret) ?_ (by first | exact .inr rfl | exact .inl rfl) (by kernel_rfl) (by kernel_rfl)

  have h1 := ref9_neg k hk
  have h2 := ref9_add f (rq (-fv k)) hf hk2 f0 (rq_d0 _)
  rw [fv_rq, ← Rat.sub_eq_add_neg] at h2
  exact r9s_p h1 h2

theorem fq_eq (a b : Fq) : (a.neg = b.neg ∧ a.n = b.n ∧ a.d = b.d) ↔ a = b :=
  ⟨fun h => by cases a; cases b; simp at h; obtain ⟨rfl, rfl, rfl⟩ := h; rfl, fun h => by subst h; exact ⟨rfl, rfl, rfl⟩⟩
instance decEqFq : DecidableEq Fq := fun a b => decidable_of_iff _ (fq_eq a b)
noncomputable def B73 : Code := codeOf Tryz.f73
noncomputable def E73 : Env := EV PP 24 []
theorem D73 {args outs : List S} {gout : List (Nat × S)} {e : Fin} {res : S} (hg : Goes E73 B73 (entry 0 args) e gout) (he : e = .normal ∨ e = .ret) (hle : Nat.ble args.length 24 = true)
    (hfin : finE (tabOf PP) gout Tryz.f73.results.toList args [] = some (outs, res)) : Den PP 73 args outs res :=
  den_tab (fn := Tryz.f73) (c := B73) (by kernel_rfl) (by kernel_rfl) (by kernel_rfl) (by kernel_rfl) hle hfin hg he
theorem r9e_0   {f k : Fq}  
    (h1 : (f.neg == k.neg) = false) :
    Goes E73 B73 [(0, (FS f)), (1, (FS k))] .ret [(4, (bl false))] :=
  pathG [.r [] [0, 1, 2, 3, 4], .r [.b false, .b false, .b false, .b false, .b false, .b false, .b false, .b false, .b false, .b false] [0, 1, 2, 3, 4]] ((cc h1 (cc h1 (cc h1 (cc h1 (cc h1 (cc h1 (cc (er false) (cc (er false) (cc (er false) (cc (er false) (cc (er false) (cc (er false) (cc (er false) nn)))))))))))))) (by kernel_rfl)
theorem r9e_1   {f k : Fq}  
    (h1 : Den PP 120 [(W f.n), (W k.n)] [(W f.n), (W k.n)] (bl false))
    (h2 : (f.neg == k.neg) = true) :
    Goes E73 B73 [(0, (FS f)), (1, (FS k))] .ret [(4, (bl false))] :=
  pathG [.r [] [0, 1, 2, 3, 4], .r [.b true, .b true, .b true, .b true, .b true, .c [(W f.n), (W k.n)] [(W f.n), (W k.n)] (bl false), .b false, .b false, .b false, .b false, .b false] [0, 1, 2, 3, 4]] ((cc h2 (cc h2 (cc h2 (cc h2 (cc h2 (cc (fq f.n.length 1 (wf f.n)) (cc (fq k.n.length 1 (wf k.n)) (cc h1 (cc tt (cc (bt false h2 (er false)) (cc (bt false h2 (er false)) (cc (bt false h2 (er false)) (cc (bt false h2 (er false)) (cc (bt false h2 (er false)) (cc (bt false h2 (er false)) (cc (er false) nn))))))))))))))))) (by kernel_rfl)
theorem r9e_2 {t : Bool}  {f k : Fq}  
    (h1 : Den PP 120 [(W f.n), (W k.n)] [(W f.n), (W k.n)] (bl true))
    (h2 : Den PP 120 [(W f.d), (W k.d)] [(W f.d), (W k.d)] (bl t))
    (h3 : (f.neg == k.neg) = true)
    (h4 : (bif (bif (f.neg == k.neg) then true else false) then t else false) = t) :
    Goes E73 B73 [(0, (FS f)), (1, (FS k))] .ret [(4, (bl t))] :=
  pathG [.r [] [0, 1, 2, 3, 4], .r [.b true, .b true, .b true, .b true, .b true, .c [(W f.n), (W k.n)] [(W f.n), (W k.n)] (bl true), .b true, .b true, .b true, .b true, .b true, .c [(W f.d), (W k.d)] [(W f.d), (W k.d)] (bl t)] [0, 1, 2, 3, 4]] ((cc h3 (cc h3 (cc h3 (cc h3 (cc h3 (cc (fq f.n.length 1 (wf f.n)) (cc (fq k.n.length 1 (wf k.n)) (cc h1 (cc tt (cc (bt false h3 (er true)) (cc (bt false h3 (er true)) (cc (bt false h3 (er true)) (cc (bt false h3 (er true)) (cc (bt false h3 (er true)) (cc (fq f.d.length 1 (wf f.d)) (cc (fq k.d.length 1 (wf k.d)) (cc h2 (cc tt (cc h4 nn)))))))))))))))))))) (by kernel_rfl)
theorem ref9_same (f k : Fq) (hn : f.n.length ≤ 140737488355328) (hd : f.d.length ≤ 140737488355328) :
    Den PP 73 [FS f, FS k] [FS f, FS k] (bl (decide (f = k))) := by
  refine D73 (gout := [(4, bl (decide (f = k)))]) (e := .ret) ?_ (by first | exact .inr rfl | exact .inl rfl) (by kernel_rfl) (by kernel_rfl)

  have h1 := ref_same f.n k.n hn
  have h2 := ref_same f.d k.d hd
  by_cases e0 : f.neg = k.neg
  · by_cases e1 : f.n = k.n
    · rw [decide_eq_true e1] at h1
      rw [show decide (f = k) = decide (f.d = k.d) by
        rw [decide_eq_decide]
        cases f; cases k; simp at e0 e1; subst e0; subst e1; simp]
      have e2 : (f.neg == k.neg) = true := by simp [e0]
      exact r9e_2 h1 h2 e2 (by rw [e2]; rfl)
    · rw [decide_eq_false e1] at h1
      rw [decide_eq_false (fun h => e1 (by rw [h]) : ¬ f = k)]
      exact r9e_1 h1 (by simp [e0])
  · rw [decide_eq_false (fun h => e0 (by rw [h]) : ¬ f = k)]
    exact r9e_0 (by simpa using e0)
noncomputable def B155 : Code := codeOf Tryz.f155
noncomputable def E155 : Env := EV PP 7 []
theorem D155 {args outs : List S} {gout : List (Nat × S)} {e : Fin} {res : S} (hg : Goes E155 B155 (entry 0 args) e gout) (he : e = .normal ∨ e = .ret) (hle : Nat.ble args.length 7 = true)
    (hfin : finE (tabOf PP) gout Tryz.f155.results.toList args [] = some (outs, res)) : Den PP 155 args outs res :=
  den_tab (fn := Tryz.f155) (c := B155) (by kernel_rfl) (by kernel_rfl) (by kernel_rfl) (by kernel_rfl) hle hfin hg he
theorem r9z_p   {f : Fq}  
    (h1 : ((f.n.length : Int) == (0:Int)) = (decide ((f.n.length : Int) = 0))) :
    Goes E155 B155 [(0, (FS f))] .ret [(2, (bl (decide ((f.n.length : Int) = 0))))] :=
  pathG [.r [] [0, 1, 2], .r [] [0, 1, 2]] ((cc h1 nn)) (by kernel_rfl)
theorem ref9_zero (f : Fq) :
    Den PP 155 [FS f] [FS f] (bl (decide ((f.n.length : Int) = 0))) := by
  refine D155 (gout := [(2, bl (decide ((f.n.length : Int) = 0)))]) (e := .ret) ?_ (by first | exact .inr rfl | exact .inl rfl) (by kernel_rfl) (by kernel_rfl)

  exact r9z_p (by rw [Bool.eq_iff_iff]; simp)

theorem rq_n0 (q : Rat) : ((rq q).n.length : Int) = 0 ↔ q = 0 := by
  show ((wd q.num.natAbs).length : Int) = 0 ↔ _
  constructor
  · intro h
    have h1 : q.num.natAbs = 0 := by
      rcases Nat.eq_zero_or_pos q.num.natAbs with h2 | h2
      · exact h2
      · have := wd_pos_len (by omega : q.num.natAbs ≠ 0); omega
    exact Rat.num_eq_zero.1 (Int.natAbs_eq_zero.1 h1)
  · rintro rfl; simp [wd_zero]
noncomputable def B42 : Code := codeOf Tryz.f42
noncomputable def E42 : Env := EV PP 17 []
theorem D42 {args outs : List S} {gout : List (Nat × S)} {e : Fin} {res : S} (hg : Goes E42 B42 (entry 0 args) e gout) (he : e = .normal ∨ e = .ret) (hle : Nat.ble args.length 17 = true)
    (hfin : finE (tabOf PP) gout Tryz.f42.results.toList args [] = some (outs, res)) : Den PP 42 args outs res :=
  den_tab (fn := Tryz.f42) (c := B42) (by kernel_rfl) (by kernel_rfl) (by kernel_rfl) (by kernel_rfl) hle hfin hg he
theorem r9l_p   {f : Fq} {q : Int} 
    (h1 : (decide ((f.n.length : Int) > q)) = true) :
    Goes E42 B42 [(0, (FS f)), (1, (num .i64 q))] .ret [(4, (bl true))] :=
  pathG [.r [] [0, 1, 2, 4], .r [.b true, .b true, .b true, .b true, .b true] [0, 1, 2, 4]] ((cc h1 (cc h1 (cc h1 (cc h1 (cc h1 (cc h1 (cc (er true) nn)))))))) (by kernel_rfl)
theorem r9l_q   {f : Fq} {q : Int} 
    (h1 : (decide ((f.n.length : Int) > q)) = false)
    (h2 : (bif (decide ((f.n.length : Int) > q)) then true else (decide ((f.d.length : Int) > q))) = (decide ((f.d.length : Int) > q))) :
    Goes E42 B42 [(0, (FS f)), (1, (num .i64 q))] .ret [(4, (bl (decide ((f.d.length : Int) > q))))] :=
  pathG [.r [] [0, 1, 2, 4], .r [.b false, .b false, .b false, .b false, .b false] [0, 1, 2, 4]] ((cc h1 (cc h1 (cc h1 (cc h1 (cc h1 (cc tt (cc h2 nn)))))))) (by kernel_rfl)
theorem ref9_long (f : Fq) (q : Nat) :
    Den PP 42 [FS f, num .i64 (q : Int)] [FS f, num .i64 (q : Int)] (bl (decide (q < f.n.length ∨ q < f.d.length))) := by
  refine D42 (gout := [(4, bl (decide (q < f.n.length ∨ q < f.d.length)))]) (e := .ret) ?_ (by first | exact .inr rfl | exact .inl rfl) (by kernel_rfl) (by kernel_rfl)

  by_cases h : q < f.n.length
  · rw [decide_eq_true (Or.inl h : q < f.n.length ∨ q < f.d.length)]
    exact r9l_p (f := f) (q := (q : Int)) (decide_eq_true (by omega))
  · rw [show decide (q < f.n.length ∨ q < f.d.length) = decide ((f.d.length : Int) > q) by rw [decide_eq_decide]; omega]
    have e : decide ((f.n.length : Int) > (q : Int)) = false := decide_eq_false (by omega)
    exact r9l_q (f := f) (q := (q : Int)) e (by rw [e]; rfl)
noncomputable def B151 : Code := codeOf Tryz.f151
noncomputable def E151 : Env := EV PP 10 []
theorem D151 {args outs : List S} {gout : List (Nat × S)} {e : Fin} {res : S} (hg : Goes E151 B151 (entry 0 args) e gout) (he : e = .normal ∨ e = .ret) (hle : Nat.ble args.length 10 = true)
    (hfin : finE (tabOf PP) gout Tryz.f151.results.toList args [] = some (outs, res)) : Den PP 151 args outs res :=
  den_tab (fn := Tryz.f151) (c := B151) (by kernel_rfl) (by kernel_rfl) (by kernel_rfl) (by kernel_rfl) hle hfin hg he
theorem r9z_s   {f : Fq} {i j : Int} 
    (h1 : Den PP 161 [(W f.n)] [(W f.n)] (num .i64 i))
    (h2 : Den PP 161 [(W f.d)] [(W f.d)] (num .i64 j))
    (h3 : inR .i64 (i + j)) :
    Goes E151 B151 [(0, (FS f))] .ret [(2, (num .i64 (i + j)))] :=
  pathG [.r [] [0, 1, 2], .r [.c [(W f.n)] [(W f.n)] (num .i64 i), .c [(W f.d)] [(W f.d)] (num .i64 j)] [0, 1, 2]] ((cc (fq f.n.length 1 (wf f.n)) (cc h1 (cc (fq f.d.length 1 (wf f.d)) (cc h2 (cc h3 (cc (er (i + j)) nn))))))) (by kernel_rfl)
theorem ref9_size (f : Fq) (h : Ok 33554432 f) :
    Den PP 151 [FS f] [FS f] (num .i64 ((nb (val f.n) + nb (val f.d) : Nat) : Int)) := by
  refine D151 (gout := [(2, num .i64 ((nb (val f.n) + nb (val f.d) : Nat) : Int))]) (e := .ret) ?_ (by first | exact .inr rfl | exact .inl rfl) (by kernel_rfl) (by kernel_rfl)

  have h1 := ref_len f.n h.wn (Nat.le_trans h.ln (by omega))
  have h2 := ref_len f.d h.wd (Nat.le_trans h.ld (by omega))
  have b1 := nb_words h.wn
  have b2 := nb_words h.wd
  have := h.ln
  have := h.ld
  rw [Int.natCast_add]
  exact r9z_s h1 h2 (i64_ok (by omega) (by omega))
noncomputable def B27 : Code := codeOf Tryz.f27
noncomputable def E27 : Env := EV PP 21 []
theorem D27 {args outs : List S} {gout : List (Nat × S)} {e : Fin} {res : S} (hg : Goes E27 B27 (entry 0 args) e gout) (he : e = .normal ∨ e = .ret) (hle : Nat.ble args.length 21 = true)
    (hfin : finE (tabOf PP) gout Tryz.f27.results.toList args [] = some (outs, res)) : Den PP 27 args outs res :=
  den_tab (fn := Tryz.f27) (c := B27) (by kernel_rfl) (by kernel_rfl) (by kernel_rfl) (by kernel_rfl) hle hfin hg he
theorem r9i_0 {c : Bool} {n y r : List Nat}  {q : Int} 
    (h1 : Den PP 70 [(num .u64 (wr .u64 q))] [(num .u64 (wr .u64 q))] (W n))
    (h2 : Den PP 19 [(FS ⟨false, n, [1]⟩)] [(FS ⟨false, n, [1]⟩)] (FS ⟨c, r, y⟩))
    (h3 : (decide (q < (0:Int))) = false)
    (h4 : 1 = ([1]).length ∧ FEq 1 1 (rowF 1 [(.d (.v (.int .u32 (1:Int))))]) (wf ([1]))) :
    Goes E27 B27 [(0, (num .i64 q))] .ret [(2, (BX 34 (FS ⟨c, r, y⟩)))] :=
  pathG [.r [] [0, 2], .r [] [0, 2, 4], .t false, .r [.c [(num .u64 (wr .u64 q))] [(num .u64 (wr .u64 q))] (W n), .c [(FS ⟨false, n, [1]⟩)] [(FS ⟨false, n, [1]⟩)] (FS ⟨c, r, y⟩)] [0, 2, 4]] ((cc h3 (cc tt (cc (er (wr .u64 q)) (cc h1 (cc (er false) (cc (fq n.length 1 (wf n)) (cc h4 (cc h2 (cc (er c) (cc (fq r.length 1 (wf r)) (cc (fq y.length 1 (wf y)) nn)))))))))))) (by kernel_rfl)
theorem r9i_1 {c : Bool} {n m y r : List Nat}  {q : Int} 
    (h1 : Den PP 70 [(num .u64 (wr .u64 (0 - (q + (1:Int)))))] [(num .u64 (wr .u64 (0 - (q + (1:Int)))))] (W n))
    (h2 : Den PP 69 [(W n), (W ([1]))] [(W n), (W ([1]))] (W m))
    (h3 : Den PP 19 [(FS ⟨true, m, [1]⟩)] [(FS ⟨true, m, [1]⟩)] (FS ⟨c, r, y⟩))
    (h4 : (decide (q < (0:Int))) = true)
    (h5 : inR .i64 (q + (1:Int)))
    (h6 : inR .i64 (0 - (q + (1:Int))))
    (h7 : 1 = ([1]).length ∧ FEq 1 1 (rowF 1 [(.d (.v (.int .u32 (1:Int))))]) (wf ([1]))) :
    Goes E27 B27 [(0, (num .i64 q))] .ret [(2, (BX 34 (FS ⟨c, r, y⟩)))] :=
  pathG [.r [] [0, 2], .r [] [0, 2, 4], .t true, .r [.c [(num .u64 (wr .u64 (0 - (q + (1:Int)))))] [(num .u64 (wr .u64 (0 - (q + (1:Int)))))] (W n), .c [(W n), (W ([1]))] [(W n), (W ([1]))] (W m), .c [(FS ⟨true, m, [1]⟩)] [(FS ⟨true, m, [1]⟩)] (FS ⟨c, r, y⟩)] [0, 2, 4]] ((cc h4 (cc h5 (cc h6 (cc tt (cc (er (wr .u64 (0 - (q + (1:Int))))) (cc h1 (cc (fq n.length 1 (wf n)) (cc h7 (cc h2 (cc (er true) (cc (fq m.length 1 (wf m)) (cc h7 (cc h3 (cc (er c) (cc (fq r.length 1 (wf r)) (cc (fq y.length 1 (wf y)) nn))))))))))))))))) (by kernel_rfl)
theorem ref9_int (q : Int) (h1 : -9223372036854775808 ≤ q) (h2 : q ≤ 9223372036854775807) :
    Den PP 27 [num .i64 q] [num .i64 q] (FS (rq (q : Rat))) := by
  refine D27 (gout := [(2, BX 34 (FS (rq (q : Rat))))]) (e := .ret) ?_ (by first | exact .inr rfl | exact .inl rfl) (by kernel_rfl) (by kernel_rfl)

  have w1 : Wd [1] := by intro x hx; simp at hx; omega
  have v1 : val [1] = 1 := by simp [val]
  by_cases hq : q < 0
  · have e1 : wr .u64 (0 - (q + (1:Int))) = (((-(q + 1)).toNat : Nat) : Int) := by
      show _ % (18446744073709551616 : Int) = _; omega
    have h3 := ref_of (-(q + 1)).toNat (by omega)
    have h4 := (ref_add (wd (-(q + 1)).toNat) [1] (wd_Wd _) w1 (Nat.le_trans (wd_len_64 (by omega)) (by omega)) (by simp)).plain
    rw [val_wd, v1, show (-(q + 1)).toNat + 1 = (-q).toNat by omega] at h4
    have h5 := ref9_norm ⟨true, wd (-q).toNat, [1]⟩ (Ok.of (wd_Wd _) w1 (Nat.le_trans (wd_len_64 (by omega)) (by omega)) (by simp))
    have e2 : fv ⟨true, wd (-q).toNat, [1]⟩ = (q : Rat) := by
      unfold fv zv
      simp only [val_wd, v1]
      rw [Rat.mkRat_one]
      congr 1
      simp; omega
    rw [e2] at h5
    exact r9i_1 (by rw [e1]; exact h3) h4 h5 (decide_eq_true hq) (i64_in (by omega) (by omega)) (i64_in (by omega) (by omega)) one_ne_rf
  · have e1 : wr .u64 q = ((q.toNat : Nat) : Int) := by
      show _ % (18446744073709551616 : Int) = _; omega
    have h3 := ref_of q.toNat (by omega)
    have h5 := ref9_norm ⟨false, wd q.toNat, [1]⟩ (Ok.of (wd_Wd _) w1 (Nat.le_trans (wd_len_64 (by omega)) (by omega)) (by simp))
    have e2 : fv ⟨false, wd q.toNat, [1]⟩ = (q : Rat) := by
      unfold fv zv
      simp only [val_wd, v1]
      rw [Rat.mkRat_one]
      congr 1
      simp; omega
    rw [e2] at h5
    exact r9i_0 (by rw [e1]; exact h3) h5 (decide_eq_false hq) one_ne_rf
end Go.X
namespace Go.X
open Go
/-- a list told by its places -/
def tb {α : Type} (n : Nat) (g : Nat → α) : List α := (List.range n).map g
theorem tb_len {α : Type} (n : Nat) (g : Nat → α) : (tb n g).length = n := by simp [tb]
theorem tb_succ {α : Type} (n : Nat) (g : Nat → α) : tb (n + 1) g = tb n g ++ [g n] := by simp [tb, List.range_succ]
theorem tb_zero {α : Type} (g : Nat → α) : tb 0 g = [] := rfl
theorem tb_getD {α : Type} (n : Nat) (g : Nat → α) (d : α) (i : Nat) (h : i < n) : (tb n g).getD i d = g i := by
  simp [tb, List.getD, List.getElem?_map, List.getElem?_range h]
theorem tb_map {α β : Type} (l : List α) (d : α) (g : α → β) : tb l.length (fun i => g (l.getD i d)) = l.map g := by
  apply List.ext_getElem
  · simp [tb]
  · intro i h1 h2
    simp [tb] at h1 ⊢
    rw [List.getElem?_eq_getElem (by simpa [tb] using h1)]; rfl
theorem tb_zip {α β γ : Type} (l : List α) (m : List β) (d : α) (e : β) (h : l.length = m.length) (g : α → β → γ) : tb l.length (fun i => g (l.getD i d) (m.getD i e)) = List.zipWith g l m := by
  apply List.ext_getElem
  · simp [tb]; omega
  · intro i h1 h2
    simp [tb] at h1 ⊢
    rw [List.getElem?_eq_getElem (by simpa [tb] using h1), List.getElem?_eq_getElem (by omega)]; rfl
theorem tb_congr {α : Type} {n : Nat} {g g' : Nat → α} (h : ∀ i, i < n → g i = g' i) : tb n g = tb n g' := by
  simp only [tb]
  apply List.map_congr_left
  intro i hi
  exact h i (List.mem_range.1 hi)
theorem ff_app (p : List Fq) (k : Fq) : (p.length + 1) = (p ++ [k]).length ∧ FEq (p.length + 1) 3 (appF p.length (ff p) (rowF 3 [(.d (.v (.bool k.neg))), (.d (.sf 1 k.n.length (wf k.n))), (.d (.sf 1 k.d.length (wf k.d)))])) (ff (p ++ [k])) := by
  refine ⟨by simp, fun j i hj hi => ?_⟩
  by_cases h : j < p.length
  · rw [appF_lt h]
    unfold ff
    rw [show (p ++ [k]).getD j fz = p.getD j fz by simp [List.getD, List.getElem?_append_left h]]
    exact D.eqv.refl _
  · rw [appF_ge (by omega)]
    have hjl : j = p.length := by omega
    subst hjl
    unfold ff
    rw [show (p ++ [k]).getD p.length fz = k by simp [List.getD], Nat.sub_self]
    match i, hi with
    | 0, _ => exact D.eqv.refl _
    | 1, _ => exact D.eqv.refl _
    | 2, _ => exact D.eqv.refl _
theorem ff_one (k : Fq) : 1 = [k].length ∧ FEq 1 3 (rowF 3 [(.d (.v (.bool k.neg))), (.d (.sf 1 k.n.length (wf k.n))), (.d (.sf 1 k.d.length (wf k.d)))]) (ff [k]) := by
  refine ⟨rfl, fun j i hj hi => ?_⟩
  have : j = 0 := by omega
  subst this
  match i, hi with
  | 0, _ => exact D.eqv.refl _
  | 1, _ => exact D.eqv.refl _
  | 2, _ => exact D.eqv.refl _
theorem ff_set (p : List Fq) (k : Fq) (j : Nat) (h : j < p.length) : p.length = (p.set j k).length ∧ FEq p.length 3 (updF (ff p) j 0 [(.d (.v (.bool k.neg))), (.d (.sf 1 k.n.length (wf k.n))), (.d (.sf 1 k.d.length (wf k.d)))]) (ff (p.set j k)) := by
  refine ⟨by simp, fun a i ha hi => ?_⟩
  unfold updF
  by_cases hj : a = j
  · subst hj
    rw [if_pos ⟨rfl, by omega, by simpa using hi⟩]
    unfold ff
    rw [show (p.set a k).getD a fz = k by simp [List.getD, h]]
    match i, hi with
    | 0, _ => exact D.eqv.refl _
    | 1, _ => exact D.eqv.refl _
    | 2, _ => exact D.eqv.refl _
  · rw [if_neg (by simp [hj])]
    unfold ff
    rw [show (p.set j k).getD a fz = p.getD a fz by simp [List.getD, List.getElem?_set_ne (Ne.symm hj)]]
    exact D.eqv.refl _
theorem ff_same (p : List Fq) : p.length = p.length ∧ FEq p.length 3 (ff p) (ff p) := ⟨rfl, FEq.refl _ _ _⟩
theorem ff_eq {p q : List Fq} (h : p = q) : p.length = q.length ∧ FEq p.length 3 (ff p) (ff q) := by subst h; exact ff_same p
/-- rows of right fractions -/
def rqs (l : List Rat) : List Fq := l.map rq
def fvs (l : List Fq) : List Rat := l.map fv
theorem rqs_len (l : List Rat) : (rqs l).length = l.length := by simp [rqs]
theorem fvs_len (l : List Fq) : (fvs l).length = l.length := by simp [fvs]
theorem getD_rqs (l : List Rat) (i : Nat) (h : i < l.length) : (rqs l).getD i fz = rq (l.getD i 0) := by
  simp [rqs, List.getD, h]
theorem getD_fvs (l : List Fq) (i : Nat) (h : i < l.length) : (fvs l).getD i 0 = fv (l.getD i fz) := by
  simp [fvs, List.getD, h]
theorem fvs_rqs (l : List Rat) : fvs (rqs l) = l := by
  simp only [fvs, rqs, List.map_map]
  exact (List.map_congr_left (fun x _ => fv_rq x)).trans (List.map_id l)
def OkL (K : Nat) (l : List Fq) : Prop := ∀ i, i < l.length → Ok K (l.getD i fz)
theorem room_le {n b : Nat} (h : n ≤ 1073741824) (hb : b ≤ 1024) : room n b :=
  ⟨by omega, Nat.le_trans (Nat.mul_le_mul h hb) (by omega)⟩
end Go.X
