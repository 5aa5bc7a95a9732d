/- Part 21 of the proof of BackSums: Paths and contracts. Paths and contracts. No conditions but those that each theorem names. -/
import Derived.Test.YthmecihkgdaffaaGreatDoorP20
namespace Go.X
open Go Go.Proofs
noncomputable def B69 : Code := codeOf Tryz.f69
noncomputable def E69 : Env := EV PP 43 []
theorem D69 {args outs : List S} {gout : List (Nat × S)} {e : Fin} {res : S} (hg : Goes E69 B69 (entry 0 args) e gout) (he : e = .normal ∨ e = .ret) (hle : Nat.ble args.length 43 = true)
    (hfin : finE (tabOf PP) gout Tryz.f69.results.toList args [] = some (outs, res)) : Den PP 69 args outs res :=
  den_tab (fn := Tryz.f69) (c := B69) (by kernel_rfl) (by kernel_rfl) (by kernel_rfl) (by kernel_rfl) hle hfin hg he
noncomputable def L69a : Code := sub [true, true, true, true, false, true, false, false] B69
def sRA (ou a b : List Nat) (s i : Nat) : List (Nat × S) := [(0, (W a)), (1, (W b)), (5, (num .i64 ((ou.length : Nat) : Int))), (6, (WO ou)), (7, (num .u64 ((s : Nat) : Int))), (8, (num .i64 ((i : Nat) : Int)))]
theorem ra_in {ou r a b : List Nat} {s t c i x y : Nat}
    (h1 : Den PP 117 [(W a), (num .i64 ((i : Nat) : Int))] [(W a), (num .i64 ((i : Nat) : Int))] (u x))
    (h2 : Den PP 117 [(W b), (num .i64 ((i : Nat) : Int))] [(W b), (num .i64 ((i : Nat) : Int))] (u y))
    (h3 : (decide (((i : Nat) : Int) < ((ou.length : Nat) : Int))) = true)
    (h4 : (wr .u64 (((s : Nat) : Int) + (wr .u64 ((wr .u64 ((x : Nat) : Int)) + (wr .u64 ((y : Nat) : Int)))))) = ((t : Nat) : Int))
    (h5 : 0 ≤ ((t : Nat) : Int) ∧ 0 < (4294967296:Int))
    (h6 : idx ou.length ((i : Nat) : Int))
    (h7 : 0 ≤ ((t : Nat) : Int) ∧ 0 < (4294967296:Int) ∧ (inR .u64 ((t : Nat) : Int)))
    (h8 : inR .i64 (((i : Nat) : Int) + (1:Int)))
    (h9 : ((ou.length : Nat) : Int) = ((r.length : Nat) : Int))
    (h10 : ou.length = r.length ∧ FEq ou.length 1 (updF (wf ou) (Int.toNat ((i : Nat) : Int)) 0 [(.d (.v (.int .u32 (wr .u32 (((t : Nat) : Int) % (4294967296:Int))))))]) (wf r))
    (h11 : (((t : Nat) : Int) / (4294967296:Int)) = ((c : Nat) : Int))
    (h12 : (((i : Nat) : Int) + (1:Int)) = ((i + 1 : Nat) : Int)) :
    Goes E69 L69a (sRA ou a b s i) .normal (sRA r a b c (i + 1)) :=
  pathG [.r [] [0, 1, 5, 6, 7, 8, 19], .t true, .r [.c [(W a), (num .i64 ((i : Nat) : Int))] [(W a), (num .i64 ((i : Nat) : Int))] (u x), .c [(W b), (num .i64 ((i : Nat) : Int))] [(W b), (num .i64 ((i : Nat) : Int))] (u y)] [0, 1, 5, 6, 7, 8, 19], .u [(0, (W a)), (1, (W b)), (5, (num .i64 ((ou.length : Nat) : Int))), (6, (WO ou)), (7, (num .u64 ((t : Nat) : Int))), (8, (num .i64 ((i : Nat) : Int))), (19, (.one false [(.d (.v (.bool (decide (((i : Nat) : Int) < ((ou.length : Nat) : Int))))))]))], .r [] [0, 1, 5, 6, 7, 8, 19], .r [] [0, 1, 5, 6, 7, 8, 19], .r [] [0, 1, 5, 6, 7, 8, 19]] ((cc h3 (cc (fq a.length 1 (wf a)) (cc (er ((i : Nat) : Int)) (cc h1 (cc tt (cc (fq b.length 1 (wf b)) (cc (er ((i : Nat) : Int)) (cc h2 (cc tt (cc tt (cc tt (cc (fq a.length 1 (wf a)) (cc (fq b.length 1 (wf b)) (cc (er ((ou.length : Nat) : Int)) (cc (fq ou.length 1 (wf ou)) (cc h4 (cc (er ((i : Nat) : Int)) (cc (er (decide (((i : Nat) : Int) < ((ou.length : Nat) : Int)))) (cc h5 (cc tt (cc h6 (cc h7 (cc h8 (cc (fq a.length 1 (wf a)) (cc (fq b.length 1 (wf b)) (cc h9 (cc h10 (cc h11 (cc h12 nn)))))))))))))))))))))))))))))) (by kernel_rfl)
theorem ra_out {ou a b : List Nat} {s i : Nat}
    (h1 : (decide (((i : Nat) : Int) < ((ou.length : Nat) : Int))) = false) :
    Goes E69 L69a (sRA ou a b s i) (.exit 0) (sRA ou a b s i) :=
  pathG [.r [] [0, 1, 5, 6, 7, 8, 19], .t false] ((cc h1 (cc (fq a.length 1 (wf a)) (cc (fq b.length 1 (wf b)) (cc (er ((ou.length : Nat) : Int)) (cc (fq ou.length 1 (wf ou)) (cc (er ((s : Nat) : Int)) (cc (er ((i : Nat) : Int)) nn)))))))) (by kernel_rfl)
theorem ra_all {ou g r a b : List Nat} {n c : Nat}
    (h1 : Loops E69 L69a (sRA ou a b 0 0) (.exit 0) (sRA g a b c g.length))
    (h2 : Den PP 63 [(W g)] [(W g)] (WO r))
    (h3 : inR .i64 ((if (b.length : Int) > (a.length : Int) then (b.length : Int) else (a.length : Int)) + (1:Int)))
    (h4 : ((if (b.length : Int) > (a.length : Int) then (b.length : Int) else (a.length : Int)) + (1:Int)) = ((n : Nat) : Int))
    (h5 : ((n : Nat) : Int) = ((n : Nat) : Int) ∧ 0 ≤ ((n : Nat) : Int) ∧ ((n : Nat) : Int) ≤ 140737488355328 ∧ ((n : Nat) : Int) * 4 ≤ 140737488355328)
    (h6 : ((n : Nat) : Int) = ((ou.length : Nat) : Int))
    (h7 : (Int.toNat ((n : Nat) : Int)) = ou.length ∧ FEq (Int.toNat ((n : Nat) : Int)) 1 (fun _ i => cellD ((([(.d (.v (.int .u32 (0:Int))))]).getD i nilC).plain)) (wf ou)) :
    Goes E69 B69 [(0, (W a)), (1, (W b))] .ret [(4, (WO r))] :=
  pathG [.r [] [0, 1, 4], .r [] [0, 1, 4, 5], .u [(0, (W a)), (1, (W b)), (4, (.one false [(.app 0 0 (fun _ _ => .v undef))])), (5, (num .i64 ((n : Nat) : Int)))], .r [] [0, 1, 4, 5, 6], .r [] [0, 1, 4, 5, 6, 7], .r [] [0, 1, 4, 5, 6, 7, 8], .l (sRA ou a b 0 0) (.exit 0) (sRA g a b c g.length), .f 6, .r [.c [(W g)] [(W g)] (WO r)] [0, 1, 4, 5, 6, 7, 8]] ((cc h3 (cc (fq a.length 1 (wf a)) (cc (fq b.length 1 (wf b)) (cc (er 0) (cc h4 (cc h5 (cc (fq a.length 1 (wf a)) (cc (fq b.length 1 (wf b)) (cc h6 (cc h7 (cc (er (0:Int)) (cc (er (0:Int)) (cc h1 (cc (fq g.length 1 (wf g)) (cc h2 (cc (fq r.length 1 (wf r)) nn))))))))))))))))) (by kernel_rfl)

theorem down_set' (Q i m v : Nat) (hi : i < m) (hv : v = Q / 4294967296 ^ i % 4294967296) {R : Nat} (hR : R % 4294967296 ^ i = Q % 4294967296 ^ i) : (digs i R ++ List.replicate (m - i) 0).set i v = digs (i + 1) Q ++ List.replicate (m - (i + 1)) 0 := by
  rw [← digs_mod i R, hR, digs_mod]
  exact down_set Q i m v hi hv
theorem ra_loop (a b : List Nat) (ha : Wd a) (hb : Wd b) (m : Nat) (hm : m ≤ 2147483649) : ∀ (j i : Nat), i + j = m →
    Loops E69 L69a (sRA (digs i (gvN a b i) ++ List.replicate (m - i) 0) a b (gvN a b i / 4294967296 ^ i) i) (.exit 0) (sRA (digs m (gvN a b m)) a b (gvN a b m / 4294967296 ^ m) (digs m (gvN a b m)).length)
  | 0, i, hi => by
    have : i = m := by omega
    subst this
    rw [Nat.sub_self, List.replicate_zero, List.append_nil, digs_len]
    exact .leave (ra_out (decide_eq_false (by rw [digs_len]; omega))) (fun h => by cases h)
  | j + 1, i, hi => by
    have hlen : (digs i (gvN a b i) ++ List.replicate (m - i) 0).length = m := by simp only [List.length_append, digs_len, List.length_replicate]; omega
    have hlen1 : (digs (i + 1) (gvN a b (i + 1)) ++ List.replicate (m - (i + 1)) 0).length = m := by simp only [List.length_append, digs_len, List.length_replicate]; omega
    have hq := gvN_div ha hb i
    have hx := ha.getD i
    have hy := hb.getD i
    have hs := down_set' (gvN a b (i + 1)) i m ((gvN a b i / 4294967296 ^ i + (a.getD i 0 + b.getD i 0)) % 4294967296) (by omega) (by rw [gvN_succ, Nat.add_mul_div_left _ _ (Bpos i)]) (R := gvN a b i) (by rw [gvN_succ, Nat.add_mul_mod_self_left])
    have hc : (gvN a b i / 4294967296 ^ i + (a.getD i 0 + b.getD i 0)) / 4294967296 = gvN a b (i + 1) / 4294967296 ^ (i + 1) := by rw [gvN_succ, div_add]
    have ih := ra_loop a b ha hb m hm j (i + 1) (by omega)
    rw [← hc] at ih
    generalize gvN a b i / 4294967296 ^ i = q at *
    refine .again (ra_in (r := digs (i + 1) (gvN a b (i + 1)) ++ List.replicate (m - (i + 1)) 0) (t := q + (a.getD i 0 + b.getD i 0)) (ref_at a i) (ref_at b i) (decide_eq_true (by omega)) ?_ ?_ ?_ ?_ ?_ ?_ ?_ ?_ ?_) ih
    all_goals first
      | exact ⟨by omega, by omega⟩
      | exact i64_ok (by omega) (by omega)
      | exact ⟨by omega, by omega, by show (0 : Int) ≤ _ ∧ _ ≤ (18446744073709551615 : Int); omega⟩
      | (have e : wr .u32 (((q + (a.getD i 0 + b.getD i 0) : Nat) : Int) % (4294967296:Int)) = (((q + (a.getD i 0 + b.getD i 0)) % 4294967296 : Nat) : Int) := by
           rw [wr32]; omega
         rw [e]
         exact FEqset _ _ _ (by omega) hs)
      | omega
      | (simp only [wr64]; omega)
      | skip
theorem ref_add (a b : List Nat) (ha : Wd a) (hb : Wd b) (la : a.length ≤ 2147483648) (lb : b.length ≤ 2147483648) :
    Den PP 69 [W a, W b] [W a, W b] (WO (wd (val a + val b))) := by
  refine D69 (gout := [(4, WO (wd (val a + val b)))]) (e := .ret) ?_ (by first | exact .inr rfl | exact .inl rfl) (by kernel_rfl) (by kernel_rfl)

  have hl := ra_loop a b ha hb (max a.length b.length + 1) (by omega) (max a.length b.length + 1) 0 (by omega)
  have h0 : gvN a b 0 = 0 := by unfold gvN; simp [val]
  have h1 : gvN a b (max a.length b.length + 1) = val a + val b := by unfold gvN; rw [List.take_of_length_le (by omega), List.take_of_length_le (by omega)]
  rw [h0, h1, digs, List.nil_append, Nat.sub_zero, Nat.pow_zero, Nat.zero_div] at hl
  have hn := ref_norm (digs (max a.length b.length + 1) (val a + val b)) (by rw [digs_len]; omega)
  have hlt : val a + val b < 4294967296 ^ (max a.length b.length + 1) := by
    have e1 := val_lt ha
    have e2 := val_lt hb
    have e3 : 4294967296 ^ a.length ≤ 4294967296 ^ max a.length b.length := Nat.pow_le_pow_right (by omega) (by omega)
    have e4 : 4294967296 ^ b.length ≤ 4294967296 ^ max a.length b.length := Nat.pow_le_pow_right (by omega) (by omega)
    rw [Bsucc]; omega
  rw [trim_digs_lt hlt] at hn
  have hm : (if (b.length : Int) > (a.length : Int) then (b.length : Int) else (a.length : Int)) = ((max a.length b.length : Nat) : Int) := by split <;> omega
  refine ra_all (n := max a.length b.length + 1) hl hn ?_ ?_ ?_ ?_ ?_
  all_goals first
    | exact ⟨rfl, by omega, by omega, by omega⟩
    | exact fresh_zeros (by omega)
    | (rw [hm]; exact i64_ok (by omega) (by omega))
    | (rw [hm]; omega)
    | (rw [List.length_replicate]; done)
    | skip
noncomputable def B119 : Code := codeOf Tryz.f119
noncomputable def E119 : Env := EV PP 47 []
theorem D119 {args outs : List S} {gout : List (Nat × S)} {e : Fin} {res : S} (hg : Goes E119 B119 (entry 0 args) e gout) (he : e = .normal ∨ e = .ret) (hle : Nat.ble args.length 47 = true)
    (hfin : finE (tabOf PP) gout Tryz.f119.results.toList args [] = some (outs, res)) : Den PP 119 args outs res :=
  den_tab (fn := Tryz.f119) (c := B119) (by kernel_rfl) (by kernel_rfl) (by kernel_rfl) (by kernel_rfl) hle hfin hg he
noncomputable def L119a : Code := sub [true, true, true, true, false, true, false, false] B119
def sRSb (ou a b : List Nat) (s i : Nat) : List (Nat × S) := [(0, (W a)), (1, (W b)), (5, (num .i64 ((ou.length : Nat) : Int))), (6, (WO ou)), (7, (num .u64 ((s : Nat) : Int))), (8, (num .i64 ((i : Nat) : Int)))]
theorem rb_lt {ou r a b : List Nat} {s t i x y : Nat}
    (h1 : Den PP 117 [(W a), (num .i64 ((i : Nat) : Int))] [(W a), (num .i64 ((i : Nat) : Int))] (u x))
    (h2 : Den PP 117 [(W b), (num .i64 ((i : Nat) : Int))] [(W b), (num .i64 ((i : Nat) : Int))] (u y))
    (h3 : (decide (((i : Nat) : Int) < ((ou.length : Nat) : Int))) = true)
    (h4 : (wr .u64 ((x : Nat) : Int)) = ((x : Nat) : Int))
    (h5 : (wr .u64 ((wr .u64 ((y : Nat) : Int)) + ((s : Nat) : Int))) = ((t : Nat) : Int))
    (h6 : (decide (((x : Nat) : Int) < ((t : Nat) : Int))) = true)
    (h7 : idx ou.length ((i : Nat) : Int))
    (h8 : inR .i64 (((i : Nat) : Int) + (1:Int)))
    (h9 : ((ou.length : Nat) : Int) = ((r.length : Nat) : Int))
    (h10 : ou.length = r.length ∧ FEq ou.length 1 (updF (wf ou) (Int.toNat ((i : Nat) : Int)) 0 [(.d (.v (.int .u32 (wr .u32 (wr .u64 ((wr .u64 (((x : Nat) : Int) + (4294967296:Int))) - ((t : Nat) : Int)))))))]) (wf r))
    (h11 : (((i : Nat) : Int) + (1:Int)) = ((i + 1 : Nat) : Int)) :
    Goes E119 L119a (sRSb ou a b s i) .normal (sRSb r a b 1 (i + 1)) :=
  pathG [.r [] [0, 1, 5, 6, 7, 8, 20], .t true, .r [.c [(W a), (num .i64 ((i : Nat) : Int))] [(W a), (num .i64 ((i : Nat) : Int))] (u x)] [0, 1, 5, 6, 7, 8, 9, 20], .r [.c [(W b), (num .i64 ((i : Nat) : Int))] [(W b), (num .i64 ((i : Nat) : Int))] (u y)] [0, 1, 5, 6, 7, 8, 9, 10, 20], .u [(0, (W a)), (1, (W b)), (5, (num .i64 ((ou.length : Nat) : Int))), (6, (WO ou)), (7, (num .u64 ((s : Nat) : Int))), (8, (num .i64 ((i : Nat) : Int))), (9, (num .u64 ((x : Nat) : Int))), (10, (num .u64 ((t : Nat) : Int))), (20, (.one false [(.d (.v (.bool (decide (((i : Nat) : Int) < ((ou.length : Nat) : Int))))))]))], .r [] [0, 1, 5, 6, 7, 8, 9, 10, 20], .r [] [0, 1, 5, 6, 7, 8, 9, 10, 20, 35], .t true, .r [] [0, 1, 5, 6, 7, 8, 9, 10, 20, 35], .r [] [0, 1, 5, 6, 7, 8, 9, 10, 20, 35], .r [] [0, 1, 5, 6, 7, 8, 9, 10, 20, 35], .r [] [0, 1, 5, 6, 7, 8, 9, 10, 20, 35]] ((cc h3 (cc (fq a.length 1 (wf a)) (cc (er ((i : Nat) : Int)) (cc h1 (cc tt (cc (fq b.length 1 (wf b)) (cc (er ((i : Nat) : Int)) (cc h2 (cc tt (cc tt (cc (fq a.length 1 (wf a)) (cc (fq b.length 1 (wf b)) (cc (er ((ou.length : Nat) : Int)) (cc (fq ou.length 1 (wf ou)) (cc (er ((s : Nat) : Int)) (cc (er ((i : Nat) : Int)) (cc h4 (cc h5 (cc (er (decide (((i : Nat) : Int) < ((ou.length : Nat) : Int)))) (cc h6 (cc tt (cc tt (cc tt (cc h7 (cc h8 (cc (fq a.length 1 (wf a)) (cc (fq b.length 1 (wf b)) (cc h9 (cc h10 (cc (er (1:Int)) (cc h11 nn)))))))))))))))))))))))))))))))) (by kernel_rfl)
theorem rb_ge {ou r a b : List Nat} {s t i x y : Nat}
    (h1 : Den PP 117 [(W a), (num .i64 ((i : Nat) : Int))] [(W a), (num .i64 ((i : Nat) : Int))] (u x))
    (h2 : Den PP 117 [(W b), (num .i64 ((i : Nat) : Int))] [(W b), (num .i64 ((i : Nat) : Int))] (u y))
    (h3 : (decide (((i : Nat) : Int) < ((ou.length : Nat) : Int))) = true)
    (h4 : (wr .u64 ((x : Nat) : Int)) = ((x : Nat) : Int))
    (h5 : (wr .u64 ((wr .u64 ((y : Nat) : Int)) + ((s : Nat) : Int))) = ((t : Nat) : Int))
    (h6 : (decide (((x : Nat) : Int) < ((t : Nat) : Int))) = false)
    (h7 : idx ou.length ((i : Nat) : Int))
    (h8 : inR .i64 (((i : Nat) : Int) + (1:Int)))
    (h9 : ((ou.length : Nat) : Int) = ((r.length : Nat) : Int))
    (h10 : ou.length = r.length ∧ FEq ou.length 1 (updF (wf ou) (Int.toNat ((i : Nat) : Int)) 0 [(.d (.v (.int .u32 (wr .u32 (wr .u64 (((x : Nat) : Int) - ((t : Nat) : Int)))))))]) (wf r))
    (h11 : (((i : Nat) : Int) + (1:Int)) = ((i + 1 : Nat) : Int)) :
    Goes E119 L119a (sRSb ou a b s i) .normal (sRSb r a b 0 (i + 1)) :=
  pathG [.r [] [0, 1, 5, 6, 7, 8, 20], .t true, .r [.c [(W a), (num .i64 ((i : Nat) : Int))] [(W a), (num .i64 ((i : Nat) : Int))] (u x)] [0, 1, 5, 6, 7, 8, 9, 20], .r [.c [(W b), (num .i64 ((i : Nat) : Int))] [(W b), (num .i64 ((i : Nat) : Int))] (u y)] [0, 1, 5, 6, 7, 8, 9, 10, 20], .u [(0, (W a)), (1, (W b)), (5, (num .i64 ((ou.length : Nat) : Int))), (6, (WO ou)), (7, (num .u64 ((s : Nat) : Int))), (8, (num .i64 ((i : Nat) : Int))), (9, (num .u64 ((x : Nat) : Int))), (10, (num .u64 ((t : Nat) : Int))), (20, (.one false [(.d (.v (.bool (decide (((i : Nat) : Int) < ((ou.length : Nat) : Int))))))]))], .r [] [0, 1, 5, 6, 7, 8, 9, 10, 20], .r [] [0, 1, 5, 6, 7, 8, 9, 10, 20, 35], .t false, .r [] [0, 1, 5, 6, 7, 8, 9, 10, 20, 35], .r [] [0, 1, 5, 6, 7, 8, 9, 10, 20, 35]] ((cc h3 (cc (fq a.length 1 (wf a)) (cc (er ((i : Nat) : Int)) (cc h1 (cc tt (cc (fq b.length 1 (wf b)) (cc (er ((i : Nat) : Int)) (cc h2 (cc tt (cc tt (cc (fq a.length 1 (wf a)) (cc (fq b.length 1 (wf b)) (cc (er ((ou.length : Nat) : Int)) (cc (fq ou.length 1 (wf ou)) (cc (er ((s : Nat) : Int)) (cc (er ((i : Nat) : Int)) (cc h4 (cc h5 (cc (er (decide (((i : Nat) : Int) < ((ou.length : Nat) : Int)))) (cc h6 (cc tt (cc tt (cc h7 (cc h8 (cc (fq a.length 1 (wf a)) (cc (fq b.length 1 (wf b)) (cc h9 (cc h10 (cc (er (0:Int)) (cc h11 nn))))))))))))))))))))))))))))))) (by kernel_rfl)
theorem rb_out {ou a b : List Nat} {s i : Nat}
    (h1 : (decide (((i : Nat) : Int) < ((ou.length : Nat) : Int))) = false) :
    Goes E119 L119a (sRSb ou a b s i) (.exit 0) (sRSb ou a b s i) :=
  pathG [.r [] [0, 1, 5, 6, 7, 8, 20], .t false] ((cc h1 (cc (fq a.length 1 (wf a)) (cc (fq b.length 1 (wf b)) (cc (er ((ou.length : Nat) : Int)) (cc (fq ou.length 1 (wf ou)) (cc (er ((s : Nat) : Int)) (cc (er ((i : Nat) : Int)) nn)))))))) (by kernel_rfl)
theorem rb_all {ou g r a b : List Nat} {n c : Nat}
    (h1 : Loops E119 L119a (sRSb ou a b 0 0) (.exit 0) (sRSb g a b c g.length))
    (h2 : Den PP 63 [(W g)] [(W g)] (WO r))
    (h3 : (if (b.length : Int) > (a.length : Int) then (b.length : Int) else (a.length : Int)) = ((n : Nat) : Int))
    (h4 : ((n : Nat) : Int) = ((n : Nat) : Int) ∧ 0 ≤ ((n : Nat) : Int) ∧ ((n : Nat) : Int) ≤ 140737488355328 ∧ ((n : Nat) : Int) * 4 ≤ 140737488355328)
    (h5 : ((n : Nat) : Int) = ((ou.length : Nat) : Int))
    (h6 : (Int.toNat ((n : Nat) : Int)) = ou.length ∧ FEq (Int.toNat ((n : Nat) : Int)) 1 (fun _ i => cellD ((([(.d (.v (.int .u32 (0:Int))))]).getD i nilC).plain)) (wf ou)) :
    Goes E119 B119 [(0, (W a)), (1, (W b))] .ret [(4, (WO r))] :=
  pathG [.r [] [0, 1, 4], .r [] [0, 1, 4, 5], .u [(0, (W a)), (1, (W b)), (4, (.one false [(.app 0 0 (fun _ _ => .v undef))])), (5, (num .i64 ((n : Nat) : Int)))], .r [] [0, 1, 4, 5, 6], .r [] [0, 1, 4, 5, 6, 7], .r [] [0, 1, 4, 5, 6, 7, 8], .l (sRSb ou a b 0 0) (.exit 0) (sRSb g a b c g.length), .f 6, .r [.c [(W g)] [(W g)] (WO r)] [0, 1, 4, 5, 6, 7, 8]] ((cc (fq a.length 1 (wf a)) (cc (fq b.length 1 (wf b)) (cc (er 0) (cc h3 (cc h4 (cc (fq a.length 1 (wf a)) (cc (fq b.length 1 (wf b)) (cc h5 (cc h6 (cc (er (0:Int)) (cc (er (0:Int)) (cc h1 (cc (fq g.length 1 (wf g)) (cc h2 (cc (fq r.length 1 (wf r)) nn)))))))))))))))) (by kernel_rfl)

/-- what is left of a number less another one, with a carry ahead -/
def sbN (a b : List Nat) (i : Nat) : Nat := 4294967296 ^ i + val (a.take i) - val (b.take i)
theorem sbN_succ {a b : List Nat} (hb : Wd b) (i : Nat) : sbN a b (i + 1) = sbN a b i + 4294967296 ^ i * (4294967295 + a.getD i 0 - b.getD i 0) := by
  unfold sbN
  have h1 := val_take_lt hb i
  have h2 := hb.getD i
  have h3 : 4294967296 ^ i * b.getD i 0 ≤ 4294967296 ^ i * 4294967295 := Nat.mul_le_mul_left _ (by omega)
  rw [val_take_succ, val_take_succ, Nat.pow_succ, Nat.mul_sub, Nat.mul_add]
  omega
theorem sbN_div {a b : List Nat} (ha : Wd a) (i : Nat) : sbN a b i / 4294967296 ^ i ≤ 1 := by
  have h1 := val_take_lt ha i
  have : sbN a b i / 4294967296 ^ i < 2 := by
    rw [Nat.div_lt_iff_lt_mul (Bpos i)]; unfold sbN; have := Bpos i; omega
  omega
theorem rb_loop (a b : List Nat) (ha : Wd a) (hb : Wd b) (m : Nat) (hm : m ≤ 2147483649) : ∀ (j i : Nat), i + j = m →
    Loops E119 L119a (sRSb (digs i (sbN a b i) ++ List.replicate (m - i) 0) a b (1 - sbN a b i / 4294967296 ^ i) i) (.exit 0) (sRSb (digs m (sbN a b m)) a b (1 - sbN a b m / 4294967296 ^ m) (digs m (sbN a b m)).length)
  | 0, i, hi => by
    have : i = m := by omega
    subst this
    rw [Nat.sub_self, List.replicate_zero, List.append_nil, digs_len]
    exact .leave (rb_out (decide_eq_false (by rw [digs_len]; omega))) (fun h => by cases h)
  | j + 1, i, hi => by
    have hlen : (digs i (sbN a b i) ++ List.replicate (m - i) 0).length = m := by simp only [List.length_append, digs_len, List.length_replicate]; omega
    have hlen1 : (digs (i + 1) (sbN a b (i + 1)) ++ List.replicate (m - (i + 1)) 0).length = m := by simp only [List.length_append, digs_len, List.length_replicate]; omega
    have hq := sbN_div (b := b) ha i
    have hx := ha.getD i
    have hy := hb.getD i
    have hs := down_set' (sbN a b (i + 1)) i m ((sbN a b i / 4294967296 ^ i + (4294967295 + a.getD i 0 - b.getD i 0)) % 4294967296) (by omega) (by rw [sbN_succ hb, Nat.add_mul_div_left _ _ (Bpos i)]) (R := sbN a b i) (by rw [sbN_succ hb, Nat.add_mul_mod_self_left])
    have hc : (sbN a b i / 4294967296 ^ i + (4294967295 + a.getD i 0 - b.getD i 0)) / 4294967296 = sbN a b (i + 1) / 4294967296 ^ (i + 1) := by rw [sbN_succ hb, div_add]
    have ih := rb_loop a b ha hb m hm j (i + 1) (by omega)
    rw [← hc] at ih
    generalize sbN a b i / 4294967296 ^ i = q at *
    have hd : decide (((i : Nat) : Int) < (((digs i (sbN a b i) ++ List.replicate (m - i) 0).length : Nat) : Int)) = true := decide_eq_true (by omega)
    by_cases hlt : a.getD i 0 < b.getD i 0 + (1 - q)
    · rw [show 1 - (q + (4294967295 + a.getD i 0 - b.getD i 0)) / 4294967296 = 1 by omega] at ih
      refine .again (rb_lt (r := digs (i + 1) (sbN a b (i + 1)) ++ List.replicate (m - (i + 1)) 0) (t := b.getD i 0 + (1 - q)) (ref_at a i) (ref_at b i) hd ?_ ?_ ?_ ?_ ?_ ?_ ?_ ?_) ih
      all_goals first
        | exact decide_eq_true (by omega)
        | exact ⟨by omega, by omega⟩
        | exact i64_ok (by omega) (by omega)
        | (have e : wr .u32 (wr .u64 ((wr .u64 (((a.getD i 0 : Nat) : Int) + (4294967296:Int))) - ((b.getD i 0 + (1 - q) : Nat) : Int))) = (((q + (4294967295 + a.getD i 0 - b.getD i 0)) % 4294967296 : Nat) : Int) := by
             rw [wr32, wr64, wr64]; omega
           rw [e]
           exact FEqset _ _ _ (by omega) hs)
        | (simp only [wr64]; omega)
        | omega
        | skip
    · rw [show 1 - (q + (4294967295 + a.getD i 0 - b.getD i 0)) / 4294967296 = 0 by omega] at ih
      refine .again (rb_ge (r := digs (i + 1) (sbN a b (i + 1)) ++ List.replicate (m - (i + 1)) 0) (t := b.getD i 0 + (1 - q)) (ref_at a i) (ref_at b i) hd ?_ ?_ ?_ ?_ ?_ ?_ ?_ ?_) ih
      all_goals first
        | exact decide_eq_false (by omega)
        | exact ⟨by omega, by omega⟩
        | exact i64_ok (by omega) (by omega)
        | (have e : wr .u32 (wr .u64 (((a.getD i 0 : Nat) : Int) - ((b.getD i 0 + (1 - q) : Nat) : Int))) = (((q + (4294967295 + a.getD i 0 - b.getD i 0)) % 4294967296 : Nat) : Int) := by
             rw [wr32, wr64]; omega
           rw [e]
           exact FEqset _ _ _ (by omega) hs)
        | (simp only [wr64]; omega)
        | omega
        | skip
theorem digs_less (k A : Nat) (h : A < 4294967296 ^ k) : trimL (digs k (4294967296 ^ k + A)) = wd A := by
  rw [trim_digs, Nat.add_mod_left, Nat.mod_eq_of_lt h]
theorem ref_sub (a b : List Nat) (ha : Wd a) (hb : Wd b) (la : a.length ≤ 2147483648) (lb : b.length ≤ 2147483648) (h : val b ≤ val a) :
    Den PP 119 [W a, W b] [W a, W b] (WO (wd (val a - val b))) := by
  refine D119 (gout := [(4, WO (wd (val a - val b)))]) (e := .ret) ?_ (by first | exact .inr rfl | exact .inl rfl) (by kernel_rfl) (by kernel_rfl)

  have hl := rb_loop a b ha hb (max a.length b.length) (by omega) (max a.length b.length) 0 (by omega)
  have h0 : sbN a b 0 = 1 := by unfold sbN; simp [val]
  have h1 : sbN a b (max a.length b.length) = 4294967296 ^ (max a.length b.length) + (val a - val b) := by unfold sbN; rw [List.take_of_length_le (by omega), List.take_of_length_le (by omega)]; generalize 4294967296 ^ (max a.length b.length) = P; omega
  rw [h0, h1, digs, List.nil_append, Nat.sub_zero, Nat.pow_zero, Nat.div_one, Nat.sub_self] at hl
  have hn := ref_norm (digs (max a.length b.length) (4294967296 ^ (max a.length b.length) + (val a - val b))) (by rw [digs_len]; omega)
  have hlt : val a - val b < 4294967296 ^ (max a.length b.length) := by
    have e1 := val_lt ha
    have e3 : 4294967296 ^ a.length ≤ 4294967296 ^ max a.length b.length := Nat.pow_le_pow_right (by omega) (by omega)
    omega
  rw [digs_less _ _ hlt] at hn
  have hm : (if (b.length : Int) > (a.length : Int) then (b.length : Int) else (a.length : Int)) = ((max a.length b.length : Nat) : Int) := by split <;> omega
  refine rb_all (n := max a.length b.length) hl hn ?_ ?_ ?_ ?_
  all_goals first
    | exact ⟨rfl, by omega, by omega, by omega⟩
    | exact fresh_zeros (by omega)
    | (rw [hm]; exact i64_ok (by omega) (by omega))
    | (rw [hm]; done)
    | (rw [List.length_replicate]; done)
    | skip
end Go.X
namespace Go.X
open Go Go.Proofs
noncomputable def B71 : Code := codeOf Tryz.f71
noncomputable def E71 : Env := EV PP 68 []
theorem D71 {args outs : List S} {gout : List (Nat × S)} {e : Fin} {res : S} (hg : Goes E71 B71 (entry 0 args) e gout) (he : e = .normal ∨ e = .ret) (hle : Nat.ble args.length 68 = true)
    (hfin : finE (tabOf PP) gout Tryz.f71.results.toList args [] = some (outs, res)) : Den PP 71 args outs res :=
  den_tab (fn := Tryz.f71) (c := B71) (by kernel_rfl) (by kernel_rfl) (by kernel_rfl) (by kernel_rfl) hle hfin hg he
noncomputable def L71a : Code := sub [true, true, false, true, false, false] B71
noncomputable def L71b : Code := sub [true, true, false, true, false, false, true, false, false, true, false, true, false, false] B71
def sRMi (ou a b : List Nat) (s i k : Nat) : List (Nat × S) := [(0, (W a)), (1, (W b)), (5, (WO ou)), (6, (num .i64 ((i : Nat) : Int))), (7, (num .u64 ((s : Nat) : Int))), (8, (num .i64 ((k : Nat) : Int)))]
def sRMo (ou a b : List Nat) (i : Nat) : List (Nat × S) := [(0, (W a)), (1, (W b)), (5, (WO ou)), (6, (num .i64 ((i : Nat) : Int)))]
theorem rm_in {ou r a b : List Nat} {s t c i k : Nat}
    (h1 : (decide (((k : Nat) : Int) < (b.length : Int))) = true)
    (h2 : idx a.length ((i : Nat) : Int))
    (h3 : idx b.length ((k : Nat) : Int))
    (h4 : inR .i64 (((i : Nat) : Int) + ((k : Nat) : Int)))
    (h5 : idx ou.length (((i : Nat) : Int) + ((k : Nat) : Int)))
    (h6 : (wr .u64 (((s : Nat) : Int) + (wr .u64 ((wr .u64 ((wr .u64 (a.getD (Int.toNat ((i : Nat) : Int)) 0 : Int)) * (wr .u64 (b.getD (Int.toNat ((k : Nat) : Int)) 0 : Int)))) + (wr .u64 (ou.getD (Int.toNat (((i : Nat) : Int) + ((k : Nat) : Int))) 0 : Int)))))) = ((t : Nat) : Int))
    (h7 : 0 ≤ ((t : Nat) : Int) ∧ 0 < (4294967296:Int))
    (h8 : 0 ≤ ((t : Nat) : Int) ∧ 0 < (4294967296:Int) ∧ (inR .u64 ((t : Nat) : Int)))
    (h9 : inR .i64 (((k : Nat) : Int) + (1:Int)))
    (h10 : ou.length = r.length ∧ FEq ou.length 1 (updF (wf ou) (Int.toNat (((i : Nat) : Int) + ((k : Nat) : Int))) 0 [(.d (.v (.int .u32 (wr .u32 (((t : Nat) : Int) % (4294967296:Int))))))]) (wf r))
    (h11 : (((t : Nat) : Int) / (4294967296:Int)) = ((c : Nat) : Int))
    (h12 : (((k : Nat) : Int) + (1:Int)) = ((k + 1 : Nat) : Int)) :
    Goes E71 L71b (sRMi ou a b s i k) .normal (sRMi r a b c i (k + 1)) :=
  pathG [.r [] [0, 1, 5, 6, 7, 8, 24], .t true, .r [] [0, 1, 5, 6, 7, 8, 24], .u [(0, (W a)), (1, (W b)), (5, (WO ou)), (6, (num .i64 ((i : Nat) : Int))), (7, (num .u64 ((t : Nat) : Int))), (8, (num .i64 ((k : Nat) : Int))), (24, (.one false [(.d (.v (.bool (decide (((k : Nat) : Int) < (b.length : Int))))))]))], .r [] [0, 1, 5, 6, 7, 8, 24], .r [] [0, 1, 5, 6, 7, 8, 24], .r [] [0, 1, 5, 6, 7, 8, 24]] ((cc h1 (cc h2 (cc tt (cc h3 (cc tt (cc tt (cc h4 (cc h5 (cc tt (cc tt (cc tt (cc (fq a.length 1 (wf a)) (cc (fq b.length 1 (wf b)) (cc (fq ou.length 1 (wf ou)) (cc (er ((i : Nat) : Int)) (cc h6 (cc (er ((k : Nat) : Int)) (cc (er (decide (((k : Nat) : Int) < (b.length : Int)))) (cc h4 (cc h7 (cc tt (cc h5 (cc h8 (cc h9 (cc (fq a.length 1 (wf a)) (cc (fq b.length 1 (wf b)) (cc h10 (cc (er ((i : Nat) : Int)) (cc h11 (cc h12 nn))))))))))))))))))))))))))))))) (by kernel_rfl)
theorem rm_iout {ou a b : List Nat} {s i k : Nat}
    (h1 : (decide (((k : Nat) : Int) < (b.length : Int))) = false) :
    Goes E71 L71b (sRMi ou a b s i k) (.exit 2) (sRMi ou a b s i k) :=
  pathG [.r [] [0, 1, 5, 6, 7, 8, 24], .t false] ((cc h1 (cc (fq a.length 1 (wf a)) (cc (fq b.length 1 (wf b)) (cc (fq ou.length 1 (wf ou)) (cc (er ((i : Nat) : Int)) (cc (er ((s : Nat) : Int)) (cc (er ((k : Nat) : Int)) nn)))))))) (by kernel_rfl)
theorem rm_out {ou a b : List Nat} {i : Nat}
    (h1 : (decide (((i : Nat) : Int) < (a.length : Int))) = false) :
    Goes E71 L71a (sRMo ou a b i) (.exit 0) (sRMo ou a b i) :=
  pathG [.r [] [0, 1, 5, 6, 18], .t false] ((cc h1 (cc (fq a.length 1 (wf a)) (cc (fq b.length 1 (wf b)) (cc (fq ou.length 1 (wf ou)) (cc (er ((i : Nat) : Int)) nn)))))) (by kernel_rfl)
theorem rm_go {ou r g a b : List Nat} {c i : Nat}
    (h1 : Loops E71 L71b (sRMi ou a b 0 i 0) (.exit 2) (sRMi g a b c i b.length))
    (h2 : (decide (((i : Nat) : Int) < (a.length : Int))) = true)
    (h3 : inR .i64 (((i : Nat) : Int) + (b.length : Int)))
    (h4 : idx g.length (((i : Nat) : Int) + (b.length : Int)))
    (h5 : inR .i64 (((i : Nat) : Int) + (1:Int)))
    (h6 : g.length = r.length ∧ FEq g.length 1 (updF (wf g) (Int.toNat (((i : Nat) : Int) + (b.length : Int))) 0 [(.d (.v (.int .u32 (wr .u32 ((c : Nat) : Int)))))]) (wf r))
    (h7 : (((i : Nat) : Int) + (1:Int)) = ((i + 1 : Nat) : Int)) :
    Goes E71 L71a (sRMo ou a b i) .normal (sRMo r a b (i + 1)) :=
  pathG [.r [] [0, 1, 5, 6, 18], .t true, .r [] [0, 1, 5, 6, 7, 18], .r [] [0, 1, 5, 6, 7, 8, 18], .l (sRMi ou a b 0 i 0) (.exit 2) (sRMi g a b c i b.length), .r [] [0, 1, 5, 6, 7, 8], .r [] [0, 1, 5, 6, 7, 8]] ((cc h2 (cc (fq a.length 1 (wf a)) (cc (fq b.length 1 (wf b)) (cc (fq ou.length 1 (wf ou)) (cc (er ((i : Nat) : Int)) (cc (er (0:Int)) (cc (er (0:Int)) (cc h1 (cc h3 (cc tt (cc h4 (cc h5 (cc (fq a.length 1 (wf a)) (cc (fq b.length 1 (wf b)) (cc h6 (cc h7 nn))))))))))))))))) (by kernel_rfl)
theorem rm_all {ou r g a b : List Nat}
    (h1 : Loops E71 L71a (sRMo ou a b 0) (.exit 0) (sRMo g a b a.length))
    (h2 : Den PP 63 [(W g)] [(W g)] (WO r))
    (h3 : inR .i64 ((a.length : Int) + (b.length : Int)))
    (h4 : ((a.length : Int) + (b.length : Int)) = ((a.length : Int) + (b.length : Int)) ∧ 0 ≤ ((a.length : Int) + (b.length : Int)) ∧ ((a.length : Int) + (b.length : Int)) ≤ 140737488355328 ∧ ((a.length : Int) + (b.length : Int)) * 4 ≤ 140737488355328)
    (h5 : (Int.toNat ((a.length : Int) + (b.length : Int))) = ou.length ∧ FEq (Int.toNat ((a.length : Int) + (b.length : Int))) 1 (fun _ i => cellD ((([(.d (.v (.int .u32 (0:Int))))]).getD i nilC).plain)) (wf ou)) :
    Goes E71 B71 [(0, (W a)), (1, (W b))] .ret [(4, (WO r))] :=
  pathG [.r [] [0, 1, 4], .r [] [0, 1, 4, 5], .r [] [0, 1, 4, 5, 6], .l (sRMo ou a b 0) (.exit 0) (sRMo g a b a.length), .f 5, .r [.c [(W g)] [(W g)] (WO r)] [0, 1, 4, 5, 6]] ((cc h3 (cc h4 (cc (fq a.length 1 (wf a)) (cc (fq b.length 1 (wf b)) (cc h5 (cc (er (0:Int)) (cc h1 (cc (fq g.length 1 (wf g)) (cc h2 (cc (fq r.length 1 (wf r)) nn))))))))))) (by kernel_rfl)

theorem rm_loop (l w z a b : List Nat) (ha : Wd a) (hb : Wd b) (hw : Wd w) (hl : b.length ≤ w.length) (hn : (l ++ w ++ z).length ≤ 4294967296) (hi0 : l.length < a.length) (la : a.length ≤ 4294967296) : ∀ (j k : Nat), k + j = b.length →
    Loops E71 L71b (sRMi (l ++ (digs k (rowN b w (a.getD l.length 0) 0 k) ++ w.drop k) ++ z) a b (rowN b w (a.getD l.length 0) 0 k / 4294967296 ^ k) l.length k) (.exit 2)
      (sRMi (l ++ (digs b.length (rowN b w (a.getD l.length 0) 0 b.length) ++ w.drop b.length) ++ z) a b (rowN b w (a.getD l.length 0) 0 b.length / 4294967296 ^ b.length) l.length b.length)
  | 0, k, hk => by
    have : k = b.length := by omega
    subst this
    exact .leave (rm_iout (decide_eq_false (by omega))) (fun h => by cases h)
  | j + 1, k, hk => by
    have ih := rm_loop l w z a b ha hb hw hl hn hi0 la j (k + 1) (by omega)
    simp only [List.length_append] at hn
    have hx := ha.getD l.length
    generalize hxe : a.getD l.length 0 = x at *
    have hlen : (l ++ (digs k (rowN b w x 0 k) ++ w.drop k) ++ z).length = l.length + w.length + z.length := by
      simp only [List.length_append, digs_len, List.length_drop]; omega
    have hN : rowN b w x 0 k / 4294967296 ^ k < 4294967296 := by
      rw [Nat.div_lt_iff_lt_mul (Bpos k), Nat.mul_comm]; exact rowN_lt hb hw hx (by omega) k
    have hs := set_mid l (digs k (rowN b w x 0 k)) (w.drop k) z k ((rowN b w x 0 k / 4294967296 ^ k + (x * b.getD k 0 + w.getD k 0)) % 4294967296) (digs_len _ _) (by rw [List.length_drop]; omega)
    have hg := getD_mid l (digs k (rowN b w x 0 k)) (w.drop k) z k (digs_len _ _) (by rw [List.length_drop]; omega)
    rw [drop_getD] at hg
    rw [List.drop_drop, ← digs_add, ← rowN_succ] at hs
    have hq : (rowN b w x 0 k / 4294967296 ^ k + (x * b.getD k 0 + w.getD k 0)) / 4294967296 = rowN b w x 0 (k + 1) / 4294967296 ^ (k + 1) := by
      rw [rowN_succ, div_add]
    rw [← hq] at ih
    have ht : Int.toNat (((l.length : Nat) : Int) + ((k : Nat) : Int)) = l.length + k := by omega
    have hy := hb.getD k
    have hww := hw.getD k
    have hxy : x * b.getD k 0 ≤ 4294967295 * 4294967295 := Nat.mul_le_mul (by omega) (by omega)
    refine .again (rm_in (r := l ++ (digs (k + 1) (rowN b w x 0 (k + 1)) ++ w.drop (k + 1)) ++ z) (t := rowN b w x 0 k / 4294967296 ^ k + (x * b.getD k 0 + w.getD k 0)) (decide_eq_true (by omega)) ⟨by omega, by omega⟩ ⟨by omega, by omega⟩ (i64_ok (by omega) (by omega)) ⟨by omega, by omega⟩ ?_ ⟨Int.natCast_nonneg _, by omega⟩ ?_ (i64_ok (by omega) (by omega)) ?_ rfl (by omega)) ih
    · rw [ht, hg]
      show wr .u64 (_ + wr .u64 (wr .u64 (wr .u64 ((a.getD l.length 0 : Nat) : Int) * wr .u64 ((b.getD k 0 : Nat) : Int)) + wr .u64 ((w.getD k 0 : Nat) : Int))) = _
      rw [hxe]
      generalize rowN b w x 0 k / 4294967296 ^ k = q at *
      have e1 : wr .u64 (x : Int) = x := by rw [wr64]; omega
      have e2 : wr .u64 ((b.getD k 0 : Nat) : Int) = ((b.getD k 0 : Nat) : Int) := by rw [wr64]; omega
      have e3 : wr .u64 ((w.getD k 0 : Nat) : Int) = ((w.getD k 0 : Nat) : Int) := by rw [wr64]; omega
      rw [e1, e2, e3, ← Int.natCast_mul]
      generalize x * b.getD k 0 = p at *
      rw [wr64, wr64, wr64]; omega
    · generalize rowN b w x 0 k / 4294967296 ^ k = q at *
      generalize x * b.getD k 0 = p at *
      exact ⟨by omega, by omega, by show (0 : Int) ≤ _ ∧ _ ≤ (18446744073709551615 : Int); omega⟩
    · rw [ht]
      have e : wr .u32 (((rowN b w x 0 k / 4294967296 ^ k + (x * b.getD k 0 + w.getD k 0) : Nat) : Int) % (4294967296:Int)) = (((rowN b w x 0 k / 4294967296 ^ k + (x * b.getD k 0 + w.getD k 0)) % 4294967296 : Nat) : Int) := by
        rw [wr32]; omega
      rw [e]
      exact FEqset _ _ _ (by omega) hs
theorem rmo_loop (a b : List Nat) (ha : Wd a) (hb : Wd b) (la : a.length ≤ 1073741824) (lb : b.length ≤ 1073741824) : ∀ (j i : Nat), i + j = a.length →
    Loops E71 L71a (sRMo (digs (a.length + b.length) (val (a.take i) * val b)) a b i) (.exit 0) (sRMo (digs (a.length + b.length) (val a * val b)) a b a.length)
  | 0, i, hi => by
    have : i = a.length := by omega
    subst this
    rw [List.take_length]
    exact .leave (rm_out (decide_eq_false (by omega))) (fun h => by cases h)
  | j + 1, i, hi => by
    have ih := rmo_loop a b ha hb la lb j (i + 1) (by omega)
    have hB := val_lt hb
    have hN : val (a.take i) * val b < 4294967296 ^ (b.length + i) := by
      rw [Nat.pow_add, Nat.mul_comm]; exact Nat.mul_lt_mul'' hB (val_take_lt ha i)
    have hx := ha.getD i
    have hz : val (a.take i) * val b / 4294967296 ^ i < 4294967296 ^ b.length := by
      rw [Nat.div_lt_iff_lt_mul (Bpos i), ← Nat.pow_add]; exact hN
    have hsp : digs (a.length + b.length) (val (a.take i) * val b) = digs i (val (a.take i) * val b) ++ digs (b.length + 1) (val (a.take i) * val b / 4294967296 ^ i) ++ digs j 0 := by
      rw [show a.length + b.length = i + (b.length + 1) + j by omega, digs_append (i + (b.length + 1)) j, digs_append i (b.length + 1), Nat.div_eq_of_lt (a := val (a.take i) * val b) (b := 4294967296 ^ (i + (b.length + 1)))]
      refine Nat.lt_of_lt_of_le hN (Nat.pow_le_pow_right (by omega) (by omega))
    have hr := rm_loop (digs i (val (a.take i) * val b)) (digs (b.length + 1) (val (a.take i) * val b / 4294967296 ^ i)) (digs j 0) a b ha hb (digs_Wd _ _) (by rw [digs_len]; omega) (by simp only [List.length_append, digs_len]; omega) (by rw [digs_len]; omega) (by omega) b.length 0 (by omega)
    rw [digs_len] at hr
    have hrow : rowN b (digs (b.length + 1) (val (a.take i) * val b / 4294967296 ^ i)) (a.getD i 0) 0 b.length = a.getD i 0 * val b + val (a.take i) * val b / 4294967296 ^ i := by
      unfold rowN
      rw [List.take_length, digs_succ, List.take_left' (digs_len _ _), val_digs_lt hz, Nat.add_zero]
    have hrlt := rowN_lt hb (digs_Wd (b.length + 1) (val (a.take i) * val b / 4294967296 ^ i)) hx (show 0 < 4294967296 by omega) b.length
    have hr0 : rowN b (digs (b.length + 1) (val (a.take i) * val b / 4294967296 ^ i)) (a.getD i 0) 0 0 = 0 := by unfold rowN; simp [val]
    rw [hr0, digs, List.drop_zero, List.nil_append, Nat.zero_div, ← hsp] at hr
    rw [hrow] at hr hrlt
    have hc : (a.getD i 0 * val b + val (a.take i) * val b / 4294967296 ^ i) / 4294967296 ^ b.length < 4294967296 := by
      rw [Nat.div_lt_iff_lt_mul (Bpos _), Nat.mul_comm 4294967296]; exact hrlt
    have hset := set_mid (digs i (val (a.take i) * val b)) (digs b.length (a.getD i 0 * val b + val (a.take i) * val b / 4294967296 ^ i)) ((digs (b.length + 1) (val (a.take i) * val b / 4294967296 ^ i)).drop b.length) (digs j 0) b.length
      ((a.getD i 0 * val b + val (a.take i) * val b / 4294967296 ^ i) / 4294967296 ^ b.length) (digs_len _ _) (by rw [List.length_drop, digs_len]; omega)
    rw [List.drop_drop, List.drop_of_length_le (by rw [digs_len]; omega : _ ≤ b.length + 1), List.append_nil] at hset
    have he : digs b.length (a.getD i 0 * val b + val (a.take i) * val b / 4294967296 ^ i) ++ [(a.getD i 0 * val b + val (a.take i) * val b / 4294967296 ^ i) / 4294967296 ^ b.length] = digs (b.length + 1) (a.getD i 0 * val b + val (a.take i) * val b / 4294967296 ^ i) := by
      rw [digs_succ, Nat.mod_eq_of_lt hc]
    rw [he, digs_len, mul_step b.length i j _ _ _ hN hB hx, show i + (b.length + 1) + j = a.length + b.length by omega, show val (a.take i) * val b + 4294967296 ^ i * (a.getD i 0 * val b) = val (a.take (i + 1)) * val b by
      rw [val_take_succ, Nat.add_mul, Nat.mul_assoc]] at hset
    have ht : Int.toNat (((i : Nat) : Int) + (b.length : Int)) = i + b.length := by omega
    have hlen : (digs i (val (a.take i) * val b) ++ (digs b.length (a.getD i 0 * val b + val (a.take i) * val b / 4294967296 ^ i) ++ (digs (b.length + 1) (val (a.take i) * val b / 4294967296 ^ i)).drop b.length) ++ digs j 0).length = a.length + b.length := by
      simp only [List.length_append, digs_len, List.length_drop]; omega
    refine .again (rm_go (r := digs (a.length + b.length) (val (a.take (i + 1)) * val b)) hr (decide_eq_true (by omega)) (i64_ok (by omega) (by omega)) ⟨by omega, by omega⟩ (i64_ok (by omega) (by omega)) ?_ (by omega)) ih
    rw [ht, show wr .u32 (((a.getD i 0 * val b + val (a.take i) * val b / 4294967296 ^ i) / 4294967296 ^ b.length : Nat) : Int) = (((a.getD i 0 * val b + val (a.take i) * val b / 4294967296 ^ i) / 4294967296 ^ b.length : Nat) : Int) by rw [wr32]; generalize (a.getD i 0 * val b + val (a.take i) * val b / 4294967296 ^ i) / 4294967296 ^ b.length = c at *; omega]
    exact FEqset _ _ _ (by omega) hset
theorem ref_mul (a b : List Nat) (ha : Wd a) (hb : Wd b) (la : a.length ≤ 1073741824) (lb : b.length ≤ 1073741824) :
    Den PP 71 [W a, W b] [W a, W b] (WO (wd (val a * val b))) := by
  refine D71 (gout := [(4, WO (wd (val a * val b)))]) (e := .ret) ?_ (by first | exact .inr rfl | exact .inl rfl) (by kernel_rfl) (by kernel_rfl)

  have hloop := rmo_loop a b ha hb la lb a.length 0 (by omega)
  rw [List.take_zero, val, Nat.zero_mul, digs_zero] at hloop
  have hn := ref_norm (digs (a.length + b.length) (val a * val b)) (by rw [digs_len]; omega)
  have hlt : val a * val b < 4294967296 ^ (a.length + b.length) := by
    rw [Nat.pow_add]
    exact Nat.mul_lt_mul'' (val_lt ha) (val_lt hb)
  rw [trim_digs_lt hlt] at hn
  exact rm_all hloop hn (i64_ok (by omega) (by omega)) ⟨rfl, by omega, by omega, by omega⟩ (fresh_zeros (by omega))
noncomputable def B162 : Code := codeOf Tryz.f162
noncomputable def E162 : Env := EV PP 30 [0]
theorem D162 {args outs : List S} {gout : List (Nat × S)} {e : Fin} {res : S} (hg : Goes E162 B162 (entry 0 args) e gout) (he : e = .normal ∨ e = .ret) (hle : Nat.ble args.length 30 = true)
    (hfin : finE (tabOf PP) gout Tryz.f162.results.toList args [0] = some (outs, res)) : Den PP 162 args outs res :=
  den_tab (fn := Tryz.f162) (c := B162) (by kernel_rfl) (by kernel_rfl) (by kernel_rfl) (by kernel_rfl) hle hfin hg he
noncomputable def L162a : Code := sub [true, true, true, false, false] B162
def sDb (a : List Nat) (c i : Nat) : List (Nat × S) := [(0, (WO a)), (4, (u c)), (5, (num .i64 ((i : Nat) : Int)))]
theorem db_in {a r : List Nat} {c d i : Nat}
    (h1 : (decide (((i : Nat) : Int) < (a.length : Int))) = true)
    (h2 : idx a.length ((i : Nat) : Int))
    (h3 : 0 ≤ (a.getD (Int.toNat ((i : Nat) : Int)) 0 : Int) ∧ 0 < (2147483648:Int) ∧ (inR .u32 (a.getD (Int.toNat ((i : Nat) : Int)) 0 : Int)))
    (h4 : ((a.getD (Int.toNat ((i : Nat) : Int)) 0 : Int) / (2147483648:Int)) = ((d : Nat) : Int))
    (h5 : inR .i64 (((i : Nat) : Int) + (1:Int)))
    (h6 : a.length = r.length ∧ FEq a.length 1 (updF (wf a) (Int.toNat ((i : Nat) : Int)) 0 [(.d (.v (.int .u32 (wr .u32 ((wr .u32 ((a.getD (Int.toNat ((i : Nat) : Int)) 0 : Int) * (2:Int))) + ((c : Nat) : Int))))))]) (wf r))
    (h7 : (((i : Nat) : Int) + (1:Int)) = ((i + 1 : Nat) : Int)) :
    Goes E162 L162a (sDb a c i) .normal (sDb r d (i + 1)) :=
  pathG [.r [] [0, 4, 5, 11], .t true, .r [] [0, 4, 5, 6, 11], .u [(0, (WO a)), (4, (u c)), (5, (num .i64 ((i : Nat) : Int))), (6, (u d)), (11, (.one false [(.d (.v (.bool (decide (((i : Nat) : Int) < (a.length : Int))))))]))], .r [] [0, 4, 5, 6, 11], .r [] [0, 4, 5, 6, 11], .r [] [0, 4, 5, 6, 11]] ((cc h1 (cc h2 (cc h3 (cc (fq a.length 1 (wf a)) (cc (er ((c : Nat) : Int)) (cc (er ((i : Nat) : Int)) (cc h4 (cc (er (decide (((i : Nat) : Int) < (a.length : Int)))) (cc h2 (cc tt (cc tt (cc h2 (cc h5 (cc h6 (cc (er ((d : Nat) : Int)) (cc h7 nn))))))))))))))))) (by kernel_rfl)
theorem db_out {a : List Nat} {c i : Nat}
    (h1 : (decide (((i : Nat) : Int) < (a.length : Int))) = false) :
    Goes E162 L162a (sDb a c i) (.exit 0) (sDb a c i) :=
  pathG [.r [] [0, 4, 5, 11], .t false] ((cc h1 (cc (fq a.length 1 (wf a)) (cc (er ((c : Nat) : Int)) (cc (er ((i : Nat) : Int)) nn))))) (by kernel_rfl)
theorem db_t {a r : List Nat} {c : Nat}
    (h1 : Loops E162 L162a (sDb a 1 0) (.exit 0) (sDb r c r.length)) :
    Goes E162 B162 [(0, (WO a)), (1, (bl true))] .normal [(0, (WO r))] :=
  pathG [.r [] [0, 1, 4], .r [] [0, 1, 4, 7], .t true, .r [] [0, 1, 4, 7], .r [] [0, 1, 4, 5, 7], .l (sDb a 1 0) (.exit 0) (sDb r c r.length)] ((cc (er true) (cc (fq a.length 1 (wf a)) (cc (er (1:Int)) (cc (er (0:Int)) (cc h1 (cc (fq r.length 1 (wf r)) nn))))))) (by kernel_rfl)
theorem db_f {a r : List Nat} {c : Nat}
    (h1 : Loops E162 L162a (sDb a 0 0) (.exit 0) (sDb r c r.length)) :
    Goes E162 B162 [(0, (WO a)), (1, (bl false))] .normal [(0, (WO r))] :=
  pathG [.r [] [0, 1, 4], .r [] [0, 1, 4, 7], .t false, .r [] [0, 1, 4, 5, 7], .l (sDb a 0 0) (.exit 0) (sDb r c r.length)] ((cc (er false) (cc (fq a.length 1 (wf a)) (cc (er (0:Int)) (cc (er (0:Int)) (cc h1 (cc (fq r.length 1 (wf r)) nn))))))) (by kernel_rfl)

def dbN (a : List Nat) (c i : Nat) : Nat := 2 * val (a.take i) + c
theorem dbN_succ (a : List Nat) (c i : Nat) : dbN a c (i + 1) = dbN a c i + 4294967296 ^ i * (2 * a.getD i 0) := by
  unfold dbN; rw [val_take_succ, Nat.mul_add, Nat.mul_left_comm 2]; omega
theorem dbN_div {a : List Nat} (ha : Wd a) (c i : Nat) (hc : c ≤ 1) : dbN a c i / 4294967296 ^ i ≤ 1 := by
  have h1 := val_take_lt ha i
  have : dbN a c i / 4294967296 ^ i < 2 := by
    rw [Nat.div_lt_iff_lt_mul (Bpos i)]; unfold dbN; omega
  omega
theorem db_loop (a : List Nat) (c : Nat) (ha : Wd a) (hc : c ≤ 1) (la : a.length ≤ 2147483648) : ∀ (j i : Nat), i + j = a.length →
    Loops E162 L162a (sDb (digs i (dbN a c i) ++ a.drop i) (dbN a c i / 4294967296 ^ i) i) (.exit 0) (sDb (digs a.length (dbN a c a.length)) (dbN a c a.length / 4294967296 ^ a.length) (digs a.length (dbN a c a.length)).length)
  | 0, i, hi => by
    have : i = a.length := by omega
    subst this
    rw [List.drop_length, List.append_nil, digs_len]
    exact .leave (db_out (decide_eq_false (by rw [digs_len]; omega))) (fun h => by cases h)
  | j + 1, i, hi => by
    have ih := db_loop a c ha hc la j (i + 1) (by omega)
    have hx := ha.getD i
    have hq := dbN_div ha c i hc
    have hlen : (digs i (dbN a c i) ++ a.drop i).length = a.length := by simp only [List.length_append, digs_len, List.length_drop]; omega
    have hs := set_mid [] (digs i (dbN a c i)) (a.drop i) [] i ((dbN a c i / 4294967296 ^ i + 2 * a.getD i 0) % 4294967296) (digs_len _ _) (by rw [List.length_drop]; omega)
    have hg := getD_mid [] (digs i (dbN a c i)) (a.drop i) [] i (digs_len _ _) (by rw [List.length_drop]; omega)
    simp only [List.nil_append, List.append_nil, List.length_nil, Nat.zero_add] at hs hg
    rw [drop_getD] at hg
    rw [List.drop_drop, ← digs_add, ← dbN_succ] at hs
    have hqq : (dbN a c i / 4294967296 ^ i + 2 * a.getD i 0) / 4294967296 = dbN a c (i + 1) / 4294967296 ^ (i + 1) := by rw [dbN_succ, div_add]
    rw [← hqq] at ih
    have ht : Int.toNat ((i : Nat) : Int) = i := by omega
    generalize dbN a c i / 4294967296 ^ i = q at *
    refine .again (db_in (r := digs (i + 1) (dbN a c (i + 1)) ++ a.drop (i + 1)) (d := (q + 2 * a.getD i 0) / 4294967296) (decide_eq_true (by omega)) ⟨by omega, by omega⟩ ?_ ?_ (i64_ok (by omega) (by omega)) ?_ (by omega)) ih
    · rw [ht, hg]; exact ⟨by omega, by omega, by show (0 : Int) ≤ _ ∧ _ ≤ (4294967295 : Int); omega⟩
    · rw [ht, hg]; omega
    · rw [ht, hg, show wr .u32 (wr .u32 (((a.getD i 0 : Nat) : Int) * (2:Int)) + ((q : Nat) : Int)) = (((q + 2 * a.getD i 0) % 4294967296 : Nat) : Int) by rw [wr32, wr32]; omega]
      exact FEqset _ _ _ (by omega) hs
theorem ref_double (k A : Nat) (m : Bool) (hk : k ≤ 2147483648) (hA : A < 4294967296 ^ k) :
    Den PP 162 [WO (digs k A), bl m] [WO (digs k (2 * A + (if m then 1 else 0))), bl m] (.tup []) := by
  have key : ∀ c, c ≤ 1 → ∃ c', Loops E162 L162a (sDb (digs k A) c 0) (.exit 0) (sDb (digs k (2 * A + c)) c' (digs k (2 * A + c)).length) := by
    intro c hc
    have h := db_loop (digs k A) c (digs_Wd _ _) hc (by rw [digs_len]; omega) (digs k A).length 0 (by omega)
    have h0 : dbN (digs k A) c 0 = c := by unfold dbN; simp [val]
    have h1 : dbN (digs k A) c k = 2 * A + c := by unfold dbN; rw [List.take_of_length_le (by rw [digs_len]; omega), val_digs_lt hA]
    rw [h0, digs_len, h1, digs, Nat.pow_zero, Nat.div_one, List.drop_zero, List.nil_append] at h
    exact ⟨_, h⟩
  refine D162 (gout := [(0, WO (digs k (2 * A + (if m then 1 else 0))))]) (e := .normal) ?_ (.inl rfl) (by kernel_rfl) (by kernel_rfl)
  cases m with
  | true => obtain ⟨c', h⟩ := key 1 (by omega); exact db_t h
  | false => obtain ⟨c', h⟩ := key 0 (by omega); exact db_f h
noncomputable def B109 : Code := codeOf Tryz.f109
noncomputable def E109 : Env := EV PP 37 [0]
theorem D109 {args outs : List S} {gout : List (Nat × S)} {e : Fin} {res : S} (hg : Goes E109 B109 (entry 0 args) e gout) (he : e = .normal ∨ e = .ret) (hle : Nat.ble args.length 37 = true)
    (hfin : finE (tabOf PP) gout Tryz.f109.results.toList args [0] = some (outs, res)) : Den PP 109 args outs res :=
  den_tab (fn := Tryz.f109) (c := B109) (by kernel_rfl) (by kernel_rfl) (by kernel_rfl) (by kernel_rfl) hle hfin hg he
noncomputable def L109a : Code := sub [true, true, false, false] B109
def sLs (a b : List Nat) (s i : Nat) : List (Nat × S) := [(0, (WO a)), (1, (W b)), (4, (num .u64 ((s : Nat) : Int))), (5, (num .i64 ((i : Nat) : Int)))]
theorem ls_lt {a b r : List Nat} {s t i x y : Nat}
    (h1 : Den PP 117 [(W b), (num .i64 ((i : Nat) : Int))] [(W b), (num .i64 ((i : Nat) : Int))] (u y))
    (h2 : (decide (((i : Nat) : Int) < (a.length : Int))) = true)
    (h3 : idx a.length ((i : Nat) : Int))
    (h4 : (wr .u64 (a.getD (Int.toNat ((i : Nat) : Int)) 0 : Int)) = ((x : Nat) : Int))
    (h5 : (wr .u64 ((wr .u64 ((y : Nat) : Int)) + ((s : Nat) : Int))) = ((t : Nat) : Int))
    (h6 : (decide (((x : Nat) : Int) < ((t : Nat) : Int))) = true)
    (h7 : inR .i64 (((i : Nat) : Int) + (1:Int)))
    (h8 : a.length = r.length ∧ FEq a.length 1 (updF (wf a) (Int.toNat ((i : Nat) : Int)) 0 [(.d (.v (.int .u32 (wr .u32 (wr .u64 ((wr .u64 (((x : Nat) : Int) + (4294967296:Int))) - ((t : Nat) : Int)))))))]) (wf r))
    (h9 : (((i : Nat) : Int) + (1:Int)) = ((i + 1 : Nat) : Int)) :
    Goes E109 L109a (sLs a b s i) .normal (sLs r b 1 (i + 1)) :=
  pathG [.r [] [0, 1, 4, 5, 11], .t true, .r [] [0, 1, 4, 5, 6, 11], .u [(0, (WO a)), (1, (W b)), (4, (num .u64 ((s : Nat) : Int))), (5, (num .i64 ((i : Nat) : Int))), (6, (num .u64 ((x : Nat) : Int))), (11, (.one false [(.d (.v (.bool (decide (((i : Nat) : Int) < (a.length : Int))))))]))], .r [.c [(W b), (num .i64 ((i : Nat) : Int))] [(W b), (num .i64 ((i : Nat) : Int))] (u y)] [0, 1, 4, 5, 6, 7, 11], .r [] [0, 1, 4, 5, 6, 7, 11], .u [(0, (WO a)), (1, (W b)), (4, (.one false [(.d (.v (.int .u64 (0:Int))))])), (5, (num .i64 ((i : Nat) : Int))), (6, (num .u64 ((x : Nat) : Int))), (7, (num .u64 ((t : Nat) : Int))), (11, (.one false [(.d (.v (.bool (decide (((i : Nat) : Int) < (a.length : Int))))))]))], .r [] [0, 1, 4, 5, 6, 7, 11, 27], .t true, .r [] [0, 1, 4, 5, 6, 7, 11, 27], .r [] [0, 1, 4, 5, 6, 7, 11, 27], .r [] [0, 1, 4, 5, 6, 7, 11, 27], .r [] [0, 1, 4, 5, 6, 7, 11, 27]] ((cc h2 (cc h3 (cc tt (cc (fq a.length 1 (wf a)) (cc (fq b.length 1 (wf b)) (cc (er ((s : Nat) : Int)) (cc (er ((i : Nat) : Int)) (cc h4 (cc (er (decide (((i : Nat) : Int) < (a.length : Int)))) (cc (fq b.length 1 (wf b)) (cc (er ((i : Nat) : Int)) (cc h1 (cc tt (cc tt (cc (fq a.length 1 (wf a)) (cc (fq b.length 1 (wf b)) (cc (er (0:Int)) (cc (er ((i : Nat) : Int)) (cc (er ((x : Nat) : Int)) (cc h5 (cc (er (decide (((i : Nat) : Int) < (a.length : Int)))) (cc h6 (cc tt (cc tt (cc tt (cc h3 (cc h7 (cc h8 (cc (fq b.length 1 (wf b)) (cc (er (1:Int)) (cc h9 nn)))))))))))))))))))))))))))))))) (by kernel_rfl)
theorem ls_ge {a b r : List Nat} {s t i x y : Nat}
    (h1 : Den PP 117 [(W b), (num .i64 ((i : Nat) : Int))] [(W b), (num .i64 ((i : Nat) : Int))] (u y))
    (h2 : (decide (((i : Nat) : Int) < (a.length : Int))) = true)
    (h3 : idx a.length ((i : Nat) : Int))
    (h4 : (wr .u64 (a.getD (Int.toNat ((i : Nat) : Int)) 0 : Int)) = ((x : Nat) : Int))
    (h5 : (wr .u64 ((wr .u64 ((y : Nat) : Int)) + ((s : Nat) : Int))) = ((t : Nat) : Int))
    (h6 : (decide (((x : Nat) : Int) < ((t : Nat) : Int))) = false)
    (h7 : inR .i64 (((i : Nat) : Int) + (1:Int)))
    (h8 : a.length = r.length ∧ FEq a.length 1 (updF (wf a) (Int.toNat ((i : Nat) : Int)) 0 [(.d (.v (.int .u32 (wr .u32 (wr .u64 (((x : Nat) : Int) - ((t : Nat) : Int)))))))]) (wf r))
    (h9 : (((i : Nat) : Int) + (1:Int)) = ((i + 1 : Nat) : Int)) :
    Goes E109 L109a (sLs a b s i) .normal (sLs r b 0 (i + 1)) :=
  pathG [.r [] [0, 1, 4, 5, 11], .t true, .r [] [0, 1, 4, 5, 6, 11], .u [(0, (WO a)), (1, (W b)), (4, (num .u64 ((s : Nat) : Int))), (5, (num .i64 ((i : Nat) : Int))), (6, (num .u64 ((x : Nat) : Int))), (11, (.one false [(.d (.v (.bool (decide (((i : Nat) : Int) < (a.length : Int))))))]))], .r [.c [(W b), (num .i64 ((i : Nat) : Int))] [(W b), (num .i64 ((i : Nat) : Int))] (u y)] [0, 1, 4, 5, 6, 7, 11], .r [] [0, 1, 4, 5, 6, 7, 11], .u [(0, (WO a)), (1, (W b)), (4, (.one false [(.d (.v (.int .u64 (0:Int))))])), (5, (num .i64 ((i : Nat) : Int))), (6, (num .u64 ((x : Nat) : Int))), (7, (num .u64 ((t : Nat) : Int))), (11, (.one false [(.d (.v (.bool (decide (((i : Nat) : Int) < (a.length : Int))))))]))], .r [] [0, 1, 4, 5, 6, 7, 11, 27], .t false, .r [] [0, 1, 4, 5, 6, 7, 11, 27], .r [] [0, 1, 4, 5, 6, 7, 11, 27]] ((cc h2 (cc h3 (cc tt (cc (fq a.length 1 (wf a)) (cc (fq b.length 1 (wf b)) (cc (er ((s : Nat) : Int)) (cc (er ((i : Nat) : Int)) (cc h4 (cc (er (decide (((i : Nat) : Int) < (a.length : Int)))) (cc (fq b.length 1 (wf b)) (cc (er ((i : Nat) : Int)) (cc h1 (cc tt (cc tt (cc (fq a.length 1 (wf a)) (cc (fq b.length 1 (wf b)) (cc (er (0:Int)) (cc (er ((i : Nat) : Int)) (cc (er ((x : Nat) : Int)) (cc h5 (cc (er (decide (((i : Nat) : Int) < (a.length : Int)))) (cc h6 (cc tt (cc tt (cc h3 (cc h7 (cc h8 (cc (fq b.length 1 (wf b)) (cc (er (0:Int)) (cc h9 nn))))))))))))))))))))))))))))))) (by kernel_rfl)
theorem ls_out {a b : List Nat} {s i : Nat}
    (h1 : (decide (((i : Nat) : Int) < (a.length : Int))) = false) :
    Goes E109 L109a (sLs a b s i) (.exit 0) (sLs a b s i) :=
  pathG [.r [] [0, 1, 4, 5, 11], .t false] ((cc h1 (cc (fq a.length 1 (wf a)) (cc (fq b.length 1 (wf b)) (cc (er ((s : Nat) : Int)) (cc (er ((i : Nat) : Int)) nn)))))) (by kernel_rfl)
theorem ls_all {a b r : List Nat} {s : Nat}
    (h1 : Loops E109 L109a (sLs a b 0 0) (.exit 0) (sLs r b s r.length)) :
    Goes E109 B109 [(0, (WO a)), (1, (W b))] .normal [(0, (WO r))] :=
  pathG [.r [] [0, 1, 4], .r [] [0, 1, 4, 5], .l (sLs a b 0 0) (.exit 0) (sLs r b s r.length)] ((cc (fq a.length 1 (wf a)) (cc (fq b.length 1 (wf b)) (cc (er (0:Int)) (cc (er (0:Int)) (cc h1 (cc (fq r.length 1 (wf r)) nn))))))) (by kernel_rfl)

theorem ls_loop (a b : List Nat) (ha : Wd a) (hb : Wd b) (la : a.length ≤ 2147483648) : ∀ (j i : Nat), i + j = a.length →
    Loops E109 L109a (sLs (digs i (sbN a b i) ++ a.drop i) b (1 - sbN a b i / 4294967296 ^ i) i) (.exit 0) (sLs (digs a.length (sbN a b a.length)) b (1 - sbN a b a.length / 4294967296 ^ a.length) (digs a.length (sbN a b a.length)).length)
  | 0, i, hi => by
    have : i = a.length := by omega
    subst this
    rw [List.drop_length, List.append_nil, digs_len]
    exact .leave (ls_out (decide_eq_false (by rw [digs_len]; omega))) (fun h => by cases h)
  | j + 1, i, hi => by
    have ih := ls_loop a b ha hb la j (i + 1) (by omega)
    have hx := ha.getD i
    have hy := hb.getD i
    have hq := sbN_div (b := b) ha i
    have hlen : (digs i (sbN a b i) ++ a.drop i).length = a.length := by simp only [List.length_append, digs_len, List.length_drop]; omega
    have hs := set_mid [] (digs i (sbN a b i)) (a.drop i) [] i ((sbN a b i / 4294967296 ^ i + (4294967295 + a.getD i 0 - b.getD i 0)) % 4294967296) (digs_len _ _) (by rw [List.length_drop]; omega)
    have hg := getD_mid [] (digs i (sbN a b i)) (a.drop i) [] i (digs_len _ _) (by rw [List.length_drop]; omega)
    simp only [List.nil_append, List.append_nil, List.length_nil, Nat.zero_add] at hs hg
    rw [drop_getD] at hg
    rw [List.drop_drop, ← digs_add, ← sbN_succ hb] at hs
    have hqq : (sbN a b i / 4294967296 ^ i + (4294967295 + a.getD i 0 - b.getD i 0)) / 4294967296 = sbN a b (i + 1) / 4294967296 ^ (i + 1) := by rw [sbN_succ hb, div_add]
    rw [← hqq] at ih
    have ht : Int.toNat ((i : Nat) : Int) = i := by omega
    generalize sbN a b i / 4294967296 ^ i = q at *
    have hx64 : wr .u64 (((digs i (sbN a b i) ++ a.drop i).getD (Int.toNat ((i : Nat) : Int)) 0 : Nat) : Int) = ((a.getD i 0 : Nat) : Int) := by rw [ht, hg, wr64]; omega
    have hd : decide (((i : Nat) : Int) < (((digs i (sbN a b i) ++ a.drop i).length : Nat) : Int)) = true := decide_eq_true (by omega)
    by_cases hlt : a.getD i 0 < b.getD i 0 + (1 - q)
    · rw [show 1 - (q + (4294967295 + a.getD i 0 - b.getD i 0)) / 4294967296 = 1 by omega] at ih
      refine .again (ls_lt (r := digs (i + 1) (sbN a b (i + 1)) ++ a.drop (i + 1)) (x := a.getD i 0) (t := b.getD i 0 + (1 - q)) (ref_at b i) hd ⟨by omega, by omega⟩ hx64 ?_ (decide_eq_true (by omega)) (i64_ok (by omega) (by omega)) ?_ (by omega)) ih
      · rw [wr64, wr64]; omega
      · rw [ht, show wr .u32 (wr .u64 ((wr .u64 (((a.getD i 0 : Nat) : Int) + (4294967296:Int))) - ((b.getD i 0 + (1 - q) : Nat) : Int))) = (((q + (4294967295 + a.getD i 0 - b.getD i 0)) % 4294967296 : Nat) : Int) by rw [wr32, wr64, wr64]; omega]
        exact FEqset _ _ _ (by omega) hs
    · rw [show 1 - (q + (4294967295 + a.getD i 0 - b.getD i 0)) / 4294967296 = 0 by omega] at ih
      refine .again (ls_ge (r := digs (i + 1) (sbN a b (i + 1)) ++ a.drop (i + 1)) (x := a.getD i 0) (t := b.getD i 0 + (1 - q)) (ref_at b i) hd ⟨by omega, by omega⟩ hx64 ?_ (decide_eq_false (by omega)) (i64_ok (by omega) (by omega)) ?_ (by omega)) ih
      · rw [wr64, wr64]; omega
      · rw [ht, show wr .u32 (wr .u64 (((a.getD i 0 : Nat) : Int) - ((b.getD i 0 + (1 - q) : Nat) : Int))) = (((q + (4294967295 + a.getD i 0 - b.getD i 0)) % 4294967296 : Nat) : Int) by rw [wr32, wr64]; omega]
        exact FEqset _ _ _ (by omega) hs
theorem ref_less (k A : Nat) (b : List Nat) (hb : Wd b) (hk : k ≤ 2147483648) (hA : A < 4294967296 ^ k) (hlb : b.length ≤ k) (h : val b ≤ A) :
    Den PP 109 [WO (digs k A), W b] [WO (digs k (A - val b)), W b] (.tup []) := by
  refine D109 (gout := [(0, WO (digs k (A - val b)))]) (e := .normal) ?_ (.inl rfl) (by kernel_rfl) (by kernel_rfl)
  have hl := ls_loop (digs k A) b (digs_Wd _ _) hb (by rw [digs_len]; omega) (digs k A).length 0 (by omega)
  have h0 : sbN (digs k A) b 0 = 1 := by unfold sbN; simp [val]
  have h1 : sbN (digs k A) b k = (A - val b) + 4294967296 ^ k * 1 := by
    unfold sbN; rw [List.take_of_length_le (by rw [digs_len]; omega), List.take_of_length_le hlb, val_digs_lt hA]
    generalize 4294967296 ^ k = P; omega
  rw [h0, digs_len, h1, digs, Nat.pow_zero, Nat.div_one, Nat.sub_self, List.drop_zero, List.nil_append, dig_shift _ _ _ rfl] at hl
  exact ls_all hl
end Go.X
