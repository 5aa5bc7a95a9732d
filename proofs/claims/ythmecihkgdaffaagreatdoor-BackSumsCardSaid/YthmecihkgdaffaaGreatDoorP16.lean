/- Part 16 of the proof of BackSums: Paths and contracts. No conditions but those that each theorem names. -/
import Derived.Test.YthmecihkgdaffaaGreatDoorP15
namespace Go.X
open Go Go.Proofs
noncomputable def B266 : Code := codeOf Tryz.f266
noncomputable def E266 : Env := EV PP 20 []
theorem D266 {args outs : List S} {gout : List (Nat × S)} {e : Fin} {res : S} (hg : Goes E266 B266 (entry 0 args) e gout) (he : e = .normal ∨ e = .ret) (hle : Nat.ble args.length 20 = true)
    (hfin : finE (tabOf PP) gout Tryz.f266.results.toList args [] = some (outs, res)) : Den PP 266 args outs res :=
  den_tab (fn := Tryz.f266) (c := B266) (by kernel_rfl) (by kernel_rfl) (by kernel_rfl) (by kernel_rfl) hle hfin hg he
theorem tlen_nil {a x : List Nat}
    (h1 : Den PP 168 [(W a)] [(W a)] (W x))
    (h2 : ((x.length : Int) == (0:Int)) = true) :
    Goes E266 B266 [(0, (W a))] .ret [(2, (num .i64 ((0 : Nat) : Int)))] :=
  pathG [.r [] [0, 2], .r [.c [(W a)] [(W a)] (W x)] [0, 2], .r [] [0, 2, 3], .r [] [0, 2, 3, 9], .t true, .r [] [0, 2, 3, 9]] ((cc (fq a.length 1 (wf a)) (cc h1 (cc h2 (cc (er (0:Int)) nn))))) (by kernel_rfl)
theorem tlen_all {a x : List Nat} {y m r : Nat}
    (h1 : Den PP 168 [(W a)] [(W a)] (W x))
    (h2 : Den PP 245 [(u y)] [(u y)] (num .i64 ((m : Nat) : Int)))
    (h3 : ((x.length : Int) == (0:Int)) = false)
    (h4 : inR .i64 ((x.length : Int) - (1:Int)))
    (h5 : inR .i64 ((32:Int) * ((x.length : Int) - (1:Int))))
    (h6 : idx x.length ((x.length : Int) - (1:Int)))
    (h7 : (x.getD (Int.toNat ((x.length : Int) - (1:Int))) 0 : Int) = ((y : Nat) : Int))
    (h8 : inR .i64 (((32:Int) * ((x.length : Int) - (1:Int))) + ((m : Nat) : Int)))
    (h9 : (((32:Int) * ((x.length : Int) - (1:Int))) + ((m : Nat) : Int)) = ((r : Nat) : Int)) :
    Goes E266 B266 [(0, (W a))] .ret [(2, (num .i64 ((r : Nat) : Int)))] :=
  pathG [.r [] [0, 2], .r [.c [(W a)] [(W a)] (W x)] [0, 2], .r [] [0, 2, 3], .r [] [0, 2, 3, 9], .t false, .r [.c [(u y)] [(u y)] (num .i64 ((m : Nat) : Int))] [0, 2, 3, 9]] ((cc (fq a.length 1 (wf a)) (cc h1 (cc h3 (cc h4 (cc h5 (cc h4 (cc h6 (cc h7 (cc h2 (cc h8 (cc h9 nn)))))))))))) (by kernel_rfl)

theorem nb_top {n : Nat} (h : n ≠ 0) : nb n = 32 * ((wd n).length - 1) + nb ((wd n).getD ((wd n).length - 1) 0) ∧ (wd n).getD ((wd n).length - 1) 0 ≠ 0 := by
  have hl : 0 < (wd n).length := by
    rcases Nat.eq_zero_or_pos (wd n).length with h0 | h0
    · exact absurd (wd_nil.1 (List.eq_nil_of_length_eq_zero h0)) h
    · exact h0
  have hw := wd_Wd n
  have hg : (wd n).getD ((wd n).length - 1) 0 = n / 4294967296 ^ ((wd n).length - 1) := by
    have := digs_val hw
    rw [val_wd] at this
    have h2 := getD_digs (wd n).length n ((wd n).length - 1) (by omega)
    rw [this] at h2
    rw [h2]
    refine Nat.mod_eq_of_lt ?_
    rw [Nat.div_lt_iff_lt_mul (Bpos _), ← Bsucc, show (wd n).length - 1 + 1 = (wd n).length by omega]
    exact wd_len_lt n
  have hne : n / 4294967296 ^ ((wd n).length - 1) ≠ 0 := by
    have := wd_len_ge h
    intro h0
    have := (Nat.div_eq_zero_iff_lt (Bpos _)).1 h0
    omega
  have hB : (4294967296 : Nat) ^ ((wd n).length - 1) = 2 ^ (32 * ((wd n).length - 1)) := by
    rw [Nat.pow_mul]
  rw [hg]
  refine ⟨?_, hne⟩
  rw [hB] at hne ⊢
  exact nb_shift hne
theorem twos_len (a : List Nat) (ha : Wd a) (la : a.length ≤ 2147483648) :
    Den PP 266 [W a] [W a] (num .i64 (nb (val a) : Int)) := by
  refine D266 (gout := [(2, num .i64 (nb (val a) : Int))]) (e := .ret) ?_ (by first | exact .inr rfl | exact .inl rfl) (by kernel_rfl) (by kernel_rfl)

  have hn := (nat_norm a (by omega)).plain
  have hl := trim_len a
  rw [trimL_eq ha] at hn hl
  by_cases h : val a = 0
  · rw [h, wd_zero] at hn
    rw [h]
    exact tlen_nil hn rfl
  · have ⟨h1, h2⟩ := nb_top h
    have hl0 : 0 < (wd (val a)).length := by
      rcases Nat.eq_zero_or_pos (wd (val a)).length with h0 | h0
      · exact absurd (wd_nil.1 (List.eq_nil_of_length_eq_zero h0)) h
      · exact h0
    have hx := (wd_Wd (val a)).getD ((wd (val a)).length - 1)
    have hb := nb_le (n := (wd (val a)).getD ((wd (val a)).length - 1) 0) (k := 32) hx
    have hc := limb_len _ hx
    have ht : Int.toNat (((wd (val a)).length : Int) - (1:Int)) = (wd (val a)).length - 1 := by omega
    refine tlen_all (y := (wd (val a)).getD ((wd (val a)).length - 1) 0) hn hc ?_ ?_ ?_ ?_ ?_ ?_ ?_
    all_goals first
      | exact ⟨by omega, by omega⟩
      | exact i64_ok (by omega) (by omega)
      | (rw [ht])
      | (rw [beq_eq_false_iff_ne]; omega)
      | (rw [h1]; omega)
noncomputable def B246 : Code := codeOf Tryz.f246
noncomputable def E246 : Env := EV PP 57 []
theorem D246 {args outs : List S} {gout : List (Nat × S)} {e : Fin} {res : S} (hg : Goes E246 B246 (entry 0 args) e gout) (he : e = .normal ∨ e = .ret) (hle : Nat.ble args.length 57 = true)
    (hfin : finE (tabOf PP) gout Tryz.f246.results.toList args [] = some (outs, res)) : Den PP 246 args outs res :=
  den_tab (fn := Tryz.f246) (c := B246) (by kernel_rfl) (by kernel_rfl) (by kernel_rfl) (by kernel_rfl) hle hfin hg he
noncomputable def L246a : Code := sub [true, true, true, true, false, true, false, false] B246
def sUp (ou a : List Nat) (w b i : Nat) : List (Nat × S) := [(0, (W a)), (5, (num .i64 ((w : Nat) : Int))), (6, (num .i64 ((b : Nat) : Int))), (7, (WO ou)), (24, (W a)), (25, (num .i64 ((a.length : Nat) : Int))), (26, (num .i64 ((i : Nat) : Int)))]
theorem up_in {ou q r a : List Nat} {w b i y : Nat}
    (h1 : (decide (((i : Nat) : Int) < ((a.length : Nat) : Int))) = true)
    (h2 : idx a.length ((i : Nat) : Int))
    (h3 : 0 ≤ ((b : Nat) : Int) ∧ True)
    (h4 : (wr .u64 ((wr .u64 (a.getD (Int.toNat ((i : Nat) : Int)) 0 : Int)) * 2 ^ (min (Int.toNat ((b : Nat) : Int)) (IntKind.u64).bits))) = ((y : Nat) : Int))
    (h5 : inR .i64 (((w : Nat) : Int) + ((i : Nat) : Int)))
    (h6 : idx ou.length (((w : Nat) : Int) + ((i : Nat) : Int)))
    (h7 : ou.length = q.length ∧ FEq ou.length 1 (updF (wf ou) (Int.toNat (((w : Nat) : Int) + ((i : Nat) : Int))) 0 [(.d (.v (.int .u32 ((IntKind.u32).wrap (((BitVec.ofInt (IntKind.u32).bits (ou.getD (Int.toNat (((w : Nat) : Int) + ((i : Nat) : Int))) 0 : Int)) ||| (BitVec.ofInt (IntKind.u32).bits (wr .u32 ((y : Nat) : Int)))).toNat : Int)))))]) (wf q))
    (h8 : inR .i64 ((((w : Nat) : Int) + ((i : Nat) : Int)) + (1:Int)))
    (h9 : 0 ≤ (32:Int))
    (h10 : idx q.length ((((w : Nat) : Int) + ((i : Nat) : Int)) + (1:Int)))
    (h11 : inR .i64 (((i : Nat) : Int) + (1:Int)))
    (h12 : q.length = r.length ∧ FEq q.length 1 (updF (wf q) (Int.toNat ((((w : Nat) : Int) + ((i : Nat) : Int)) + (1:Int))) 0 [(.d (.v (.int .u32 (wr .u32 (((y : Nat) : Int) / 2 ^ (min (Int.toNat (32:Int)) (IntKind.u64).bits))))))]) (wf r))
    (h13 : (((i : Nat) : Int) + (1:Int)) = ((i + 1 : Nat) : Int)) :
    Goes E246 L246a (sUp ou a w b i) .normal (sUp r a w b (i + 1)) :=
  pathG [.r [] [0, 5, 6, 7, 24, 25, 26, 27], .t true, .r [] [0, 5, 6, 7, 8, 9, 24, 25, 26, 27], .r [] [0, 5, 6, 7, 8, 9, 10, 24, 25, 26, 27], .u [(0, (W a)), (5, (num .i64 ((w : Nat) : Int))), (6, (num .i64 ((b : Nat) : Int))), (7, (WO ou)), (8, (num .i64 ((i : Nat) : Int))), (10, (num .u64 ((y : Nat) : Int))), (24, (W a)), (25, (num .i64 ((a.length : Nat) : Int))), (26, (num .i64 ((i : Nat) : Int)))], .r [] [0, 5, 6, 7, 8, 10, 24, 25, 26], .u [(0, (W a)), (5, (num .i64 ((w : Nat) : Int))), (6, (num .i64 ((b : Nat) : Int))), (7, (WO q)), (8, (num .i64 ((i : Nat) : Int))), (10, (num .u64 ((y : Nat) : Int))), (24, (W a)), (25, (num .i64 ((a.length : Nat) : Int))), (26, (num .i64 ((i : Nat) : Int)))], .r [] [0, 5, 6, 7, 8, 10, 24, 25, 26], .r [] [0, 5, 6, 7, 8, 10, 24, 25, 26]] ((cc h1 (cc h2 (cc tt (cc h3 (cc (fq a.length 1 (wf a)) (cc (er ((w : Nat) : Int)) (cc (er ((b : Nat) : Int)) (cc (fq ou.length 1 (wf ou)) (cc (er ((i : Nat) : Int)) (cc h4 (cc (fq a.length 1 (wf a)) (cc (er ((a.length : Nat) : Int)) (cc (er ((i : Nat) : Int)) (cc h5 (cc h6 (cc tt (cc tt (cc h6 (cc (fq a.length 1 (wf a)) (cc (er ((w : Nat) : Int)) (cc (er ((b : Nat) : Int)) (cc h7 (cc (er ((i : Nat) : Int)) (cc (er ((y : Nat) : Int)) (cc (fq a.length 1 (wf a)) (cc (er ((a.length : Nat) : Int)) (cc (er ((i : Nat) : Int)) (cc h5 (cc h8 (cc h9 (cc tt (cc h10 (cc h11 (cc (fq a.length 1 (wf a)) (cc (er ((w : Nat) : Int)) (cc (er ((b : Nat) : Int)) (cc h12 (cc (fq a.length 1 (wf a)) (cc (er ((a.length : Nat) : Int)) (cc h13 nn))))))))))))))))))))))))))))))))))))))))) (by kernel_rfl)
theorem up_out {ou a : List Nat} {w b i : Nat}
    (h1 : (decide (((i : Nat) : Int) < ((a.length : Nat) : Int))) = false) :
    Goes E246 L246a (sUp ou a w b i) (.exit 0) (sUp ou a w b i) :=
  pathG [.r [] [0, 5, 6, 7, 24, 25, 26, 27], .t false] ((cc h1 (cc (fq a.length 1 (wf a)) (cc (er ((w : Nat) : Int)) (cc (er ((b : Nat) : Int)) (cc (fq ou.length 1 (wf ou)) (cc (fq a.length 1 (wf a)) (cc (er ((a.length : Nat) : Int)) (cc (er ((i : Nat) : Int)) nn))))))))) (by kernel_rfl)
theorem up_all {ou g r a : List Nat} {n w b : Nat}
    (h1 : Loops E246 L246a (sUp ou a w b 0) (.exit 0) (sUp g a w b a.length))
    (h2 : Den PP 168 [(W g)] [(W g)] (WO r))
    (h3 : (if (4096:Int) < (if (0:Int) > ((n : Nat) : Int) then (0:Int) else ((n : Nat) : Int)) then (4096:Int) else (if (0:Int) > ((n : Nat) : Int) then (0:Int) else ((n : Nat) : Int))) = ((n : Nat) : Int))
    (h4 : (32:Int) ≠ 0 ∧ (inR .i64 (Int.tdiv ((n : Nat) : Int) (32:Int))))
    (h5 : (32:Int) ≠ 0)
    (h6 : (Int.tdiv ((n : Nat) : Int) (32:Int)) = ((w : Nat) : Int))
    (h7 : (Int.tmod ((n : Nat) : Int) (32:Int)) = ((b : Nat) : Int))
    (h8 : inR .i64 (((w : Nat) : Int) + (a.length : Int)))
    (h9 : inR .i64 ((((w : Nat) : Int) + (a.length : Int)) + (1:Int)))
    (h10 : ((((w : Nat) : Int) + (a.length : Int)) + (1:Int)) = ((((w : Nat) : Int) + (a.length : Int)) + (1:Int)) ∧ 0 ≤ ((((w : Nat) : Int) + (a.length : Int)) + (1:Int)) ∧ ((((w : Nat) : Int) + (a.length : Int)) + (1:Int)) ≤ 140737488355328 ∧ ((((w : Nat) : Int) + (a.length : Int)) + (1:Int)) * 4 ≤ 140737488355328)
    (h11 : (Int.toNat ((((w : Nat) : Int) + (a.length : Int)) + (1:Int))) = ou.length ∧ FEq (Int.toNat ((((w : Nat) : Int) + (a.length : Int)) + (1:Int))) 1 (fun _ i => cellD ((([(.d (.v (.int .u32 (0:Int))))]).getD i nilC).plain)) (wf ou)) :
    Goes E246 B246 [(0, (W a)), (1, (num .i64 ((n : Nat) : Int)))] .ret [(4, (WO r))] :=
  pathG [.r [] [0, 1, 4], .r [] [0, 1, 4], .u [(0, (W a)), (1, (num .i64 ((n : Nat) : Int))), (4, (.one false [(.app 0 0 (fun _ _ => .v undef))]))], .r [] [0, 1, 4, 5, 6], .u [(0, (W a)), (4, (.one false [(.app 0 0 (fun _ _ => .v undef))])), (5, (num .i64 ((w : Nat) : Int))), (6, (num .i64 ((b : Nat) : Int)))], .r [] [0, 4, 5, 6, 7], .r [] [0, 4, 5, 6, 7, 24, 25, 26], .l (sUp ou a w b 0) (.exit 0) (sUp g a w b a.length), .f 7, .r [.c [(W g)] [(W g)] (WO r)] [0, 4, 5, 6, 7, 24, 25, 26]] ((cc (fq a.length 1 (wf a)) (cc h3 (cc (er 0) (cc h4 (cc h5 (cc (fq a.length 1 (wf a)) (cc (er 0) (cc h6 (cc h7 (cc h8 (cc h9 (cc h10 (cc (fq a.length 1 (wf a)) (cc (er ((w : Nat) : Int)) (cc (er ((b : Nat) : Int)) (cc h11 (cc (fq a.length 1 (wf a)) (cc (er (a.length : Int)) (cc (er (0:Int)) (cc h1 (cc (fq g.length 1 (wf g)) (cc h2 (cc (fq r.length 1 (wf r)) nn)))))))))))))))))))))))) (by kernel_rfl)

theorem fresh_zeros {k : Int} {n : Nat} (h : k = n) : (Int.toNat k) = (List.replicate n 0).length ∧ FEq (Int.toNat k) 1 (fun _ i => cellD ((([(.d (.v (.int .u32 (0:Int))))]).getD i nilC).plain)) (wf (List.replicate n 0)) := by
  subst h
  refine ⟨by simp, FEq.words fun j hj => ?_⟩
  simp [List.getD_eq_getElem?_getD, List.getElem?_replicate]; split <;> rfl
theorem set_app (p s : List Nat) (a v k : Nat) (hk : k = p.length) : (p ++ a :: s).set k v = p ++ v :: s := by subst hk; simp
theorem getD_app (p s : List Nat) (a k : Nat) (hk : k = p.length) : (p ++ a :: s).getD k 0 = a := by subst hk; simp [List.getD_eq_getElem?_getD]
theorem or32 (x y : Nat) (hx : x < 4294967296) (hy : y < 4294967296) (hz : x ||| y < 4294967296) :
    (IntKind.u32).wrap (((BitVec.ofInt (IntKind.u32).bits (x : Int)) ||| (BitVec.ofInt (IntKind.u32).bits (y : Int))).toNat : Int) = ((x ||| y : Nat) : Int) := by
  have h1 : (BitVec.ofInt (IntKind.u32).bits (x : Int)).toNat = x := by
    rw [BitVec.toNat_ofInt]; show ((x : Int) % (4294967296 : Nat)).toNat = x; omega
  have h2 : (BitVec.ofInt (IntKind.u32).bits (y : Int)).toNat = y := by
    rw [BitVec.toNat_ofInt]; show ((y : Int) % (4294967296 : Nat)).toNat = y; omega
  rw [BitVec.toNat_or, h1, h2]
  show ((x ||| y : Nat) : Int) % 4294967296 = _
  omega
theorem B_split {b : Nat} (hb : b < 32) : 4294967296 = 2 ^ b * 2 ^ (32 - b) := by
  rw [← Nat.pow_add, show b + (32 - b) = 32 by omega]
theorem up_arith {b x c : Nat} (hb : b < 32) (hx : x < 4294967296) (hc : c < 2 ^ b) :
    (c + 2 ^ b * x) % 4294967296 = c + 2 ^ b * x % 4294967296 ∧ (c + 2 ^ b * x) / 4294967296 = 2 ^ b * x / 4294967296 ∧ 2 ^ b * x < 18446744073709551616 ∧ 2 ^ b * x / 4294967296 < 4294967296 ∧
      (c ||| 2 ^ b * x % 4294967296) = c + 2 ^ b * x % 4294967296 ∧ c + 2 ^ b * x % 4294967296 < 4294967296 := by
  have e : 2 ^ b * x % 4294967296 = 2 ^ b * (x % 2 ^ (32 - b)) := by
    have := Nat.mul_mod_mul_left (2 ^ b) x (2 ^ (32 - b))
    rw [← B_split hb] at this; exact this
  have h1 : x % 2 ^ (32 - b) + 1 ≤ 2 ^ (32 - b) := Nat.mod_lt _ (Nat.pow_pos (by omega))
  have h2 : 2 ^ b * (x % 2 ^ (32 - b)) + 2 ^ b ≤ 4294967296 := by
    have := Nat.mul_le_mul_left (2 ^ b) h1
    rw [Nat.mul_add, Nat.mul_one, ← B_split hb] at this; exact this
  have h3 : 2 ^ b ≤ 2147483648 := Nat.pow_le_pow_right (n := 2) (by omega) (by omega : b ≤ 31)
  have h4 : 2 ^ b * x ≤ 2147483648 * 4294967295 := Nat.mul_le_mul h3 (by omega)
  refine ⟨by omega, by omega, by omega, by omega, ?_, by omega⟩
  rw [e, Nat.or_comm, ← Nat.two_pow_add_eq_or_of_lt hc, Nat.add_comm]
theorem digs_cons0 (k c : Nat) (h : c < 4294967296) : digs (k + 1) c = c :: digs k 0 := by
  rw [digs, Nat.mod_eq_of_lt h, Nat.div_eq_of_lt h]
/-- what stands there when i words are shifted -/
def upN (a : List Nat) (w b i : Nat) : Nat := 4294967296 ^ w * (2 ^ b * val (a.take i))
theorem upN_div {a : List Nat} (ha : Wd a) (w b i : Nat) : upN a w b i / 4294967296 ^ (w + i) < 2 ^ b := by
  unfold upN
  rw [Nat.pow_add, ← Nat.div_div_eq_div_mul, Nat.mul_div_cancel_left _ (Bpos w), Nat.div_lt_iff_lt_mul (Bpos i)]
  exact (Nat.mul_lt_mul_left (Nat.pow_pos (by omega))).2 (val_take_lt ha i)
theorem upN_succ (a : List Nat) (w b i : Nat) : upN a w b (i + 1) = upN a w b i + 4294967296 ^ (w + i) * (2 ^ b * a.getD i 0) := by
  unfold upN
  rw [val_take_succ, Nat.mul_add, Nat.mul_add, Nat.pow_add, Nat.mul_left_comm (2 ^ b), Nat.mul_assoc]
theorem up_loop (a : List Nat) (w b : Nat) (ha : Wd a) (la : a.length ≤ 2147483648) (hw : w ≤ 1000) (hb : b < 32) : ∀ (j i : Nat), i + j = a.length →
    Loops E246 L246a (sUp (digs (w + a.length + 1) (upN a w b i)) a w b i) (.exit 0) (sUp (digs (w + a.length + 1) (upN a w b a.length)) a w b a.length)
  | 0, i, hi => by
    have : i = a.length := by omega
    subst this
    exact .leave (up_out (decide_eq_false (by omega))) (fun h => by cases h)
  | j + 1, i, hi => by
    have hx := ha.getD i
    have hc := upN_div ha w b i
    obtain ⟨a1, a2, a3, a4, a5, a6⟩ := up_arith hb hx hc
    have hb2 : 2 ^ b < 4294967296 := Nat.pow_lt_pow_right (a := 2) (by omega) (by omega : b < 32)
    have hN : digs (w + a.length + 1) (upN a w b i) = digs (w + i) (upN a w b i) ++ (upN a w b i / 4294967296 ^ (w + i)) :: digs (j + 1) 0 := by
      rw [show w + a.length + 1 = (w + i) + (j + 1 + 1) by omega, digs_append, digs_cons0 _ _ (by omega)]
    have hz0 : digs (j + 1) 0 = 0 :: digs j 0 := digs_cons0 _ _ (by omega)
    have hs := set_app (digs (w + i) (upN a w b i)) (digs (j + 1) 0) (upN a w b i / 4294967296 ^ (w + i)) (upN a w b i / 4294967296 ^ (w + i) + 2 ^ b * a.getD i 0 % 4294967296) (w + i) (digs_len _ _).symm
    have hg := getD_app (digs (w + i) (upN a w b i)) (digs (j + 1) 0) (upN a w b i / 4294967296 ^ (w + i)) (w + i) (digs_len _ _).symm
    rw [← hN] at hs hg
    have hs2 := set_app (digs (w + i) (upN a w b i) ++ [upN a w b i / 4294967296 ^ (w + i) + 2 ^ b * a.getD i 0 % 4294967296]) (digs j 0) 0 (2 ^ b * a.getD i 0 / 4294967296) (w + i + 1) (by simp [digs_len])
    rw [List.append_assoc, List.append_assoc] at hs2
    have hN2 : digs (w + a.length + 1) (upN a w b (i + 1)) = digs (w + i) (upN a w b i) ++ (upN a w b i / 4294967296 ^ (w + i) + 2 ^ b * a.getD i 0 % 4294967296) :: (2 ^ b * a.getD i 0 / 4294967296) :: digs j 0 := by
      rw [show w + a.length + 1 = (w + i) + (j + 1 + 1) by omega, digs_append, upN_succ, Nat.add_mul_div_left _ _ (Bpos _), digs, a1, a2, digs_cons0 _ _ a4]
      congr 1
      rw [← digs_mod, Nat.add_mul_mod_self_left, digs_mod]
    have hl1 : (digs (w + a.length + 1) (upN a w b i)).length = w + a.length + 1 := digs_len _ _
    have e1 : wr .u64 ((a.getD i 0 : Nat) : Int) = ((a.getD i 0 : Nat) : Int) := by rw [wr64]; omega
    have ht : Int.toNat (((w : Nat) : Int) + ((i : Nat) : Int)) = w + i := by omega
    have ht2 : Int.toNat ((((w : Nat) : Int) + ((i : Nat) : Int)) + (1:Int)) = w + i + 1 := by omega
    have e3 : wr .u32 ((2 ^ b * a.getD i 0 : Nat) : Int) = ((2 ^ b * a.getD i 0 % 4294967296 : Nat) : Int) := by rw [wr32]; omega
    have e4 : wr .u32 (((2 ^ b * a.getD i 0 : Nat) : Int) / 2 ^ (min (Int.toNat (32:Int)) (IntKind.u64).bits)) = ((2 ^ b * a.getD i 0 / 4294967296 : Nat) : Int) := by
      rw [show (2 : Int) ^ (min (Int.toNat (32:Int)) (IntKind.u64).bits) = 4294967296 by decide, wr32]; omega
    refine .again (up_in (y := 2 ^ b * a.getD i 0) (q := digs (w + i) (upN a w b i) ++ (upN a w b i / 4294967296 ^ (w + i) + 2 ^ b * a.getD i 0 % 4294967296) :: digs (j + 1) 0) (r := digs (w + a.length + 1) (upN a w b (i + 1)))
      (decide_eq_true (by omega)) ⟨by omega, by omega⟩ ⟨by omega, trivial⟩ ?_ (i64_ok (by omega) (by omega)) ⟨by omega, by omega⟩ ?_ (i64_ok (by omega) (by omega)) (by omega) ?_ (i64_ok (by omega) (by omega)) ?_ (by omega)) (up_loop a w b ha la hw hb j (i + 1) (by omega))
    · show wr .u64 (wr .u64 ((a.getD i 0 : Nat) : Int) * _) = _
      rw [e1, sh64 b (by omega), wr64, Int.mul_comm, ← Int.natCast_mul]; omega
    · rw [ht]
      refine FEqset _ _ (upN a w b i / 4294967296 ^ (w + i) + 2 ^ b * a.getD i 0 % 4294967296) (by omega) hs |> fun h => ?_
      rw [hg, e3, or32 _ _ (by omega) (Nat.mod_lt _ (by omega)) (by rw [a5]; exact a6), a5]
      exact h
    · simp only [List.length_append, List.length_cons, digs_len]; exact ⟨by omega, by omega⟩
    · rw [ht2, e4]
      exact FEqset _ _ _ (by simp only [List.length_append, List.length_cons, digs_len]; omega) (by rw [hz0, hN2]; simpa using hs2)
theorem twos_up (a : List Nat) (n : Nat) (ha : Wd a) (la : a.length ≤ 1073741824) (hn : n ≤ 4096) :
    Den PP 246 [W a, num .i64 (n : Int)] [W a, num .i64 (n : Int)] (WO (wd (2 ^ n * val a))) := by
  refine D246 (gout := [(4, WO (wd (2 ^ n * val a)))]) (e := .ret) ?_ (by first | exact .inr rfl | exact .inl rfl) (by kernel_rfl) (by kernel_rfl)

  have hloop := up_loop a (n / 32) (n % 32) ha (by omega) (by omega) (Nat.mod_lt _ (by omega)) a.length 0 (by omega)
  have h0 : upN a (n / 32) (n % 32) 0 = 0 := by unfold upN; rw [List.take_zero, val]; simp
  have hp : upN a (n / 32) (n % 32) a.length = 2 ^ n * val a := by
    unfold upN
    rw [List.take_length, ← Nat.mul_assoc, show (4294967296 : Nat) = 2 ^ 32 by rfl, ← Nat.pow_mul, ← Nat.pow_add, show 32 * (n / 32) + n % 32 = n by omega]
  have hlt : 2 ^ n * val a < 4294967296 ^ (n / 32 + a.length + 1) := by
    have h1 := val_lt ha
    have h2 : 2 ^ n ≤ 4294967296 ^ (n / 32 + 1) := by
      rw [show (4294967296 : Nat) = 2 ^ 32 by rfl, ← Nat.pow_mul]; exact Nat.pow_le_pow_right (by omega) (by omega)
    rw [show n / 32 + a.length + 1 = (n / 32 + 1) + a.length by omega, Nat.pow_add]
    exact Nat.mul_lt_mul_of_le_of_lt h2 h1 (Bpos _)
  rw [h0, digs_zero, hp] at hloop
  have hn := nat_norm (digs (n / 32 + a.length + 1) (2 ^ n * val a)) (by rw [digs_len]; omega)
  rw [trim_digs_lt hlt] at hn
  have hq : Int.tdiv ((n : Nat) : Int) (32:Int) = ((n / 32 : Nat) : Int) := rfl
  have hr : Int.tmod ((n : Nat) : Int) (32:Int) = ((n % 32 : Nat) : Int) := rfl
  refine up_all (n := n) hloop hn ?_ ⟨by omega, by rw [hq]; exact i64_ok (by omega) (by omega)⟩ (by omega) hq hr (i64_ok (by omega) (by omega)) (i64_ok (by omega) (by omega)) ⟨rfl, by omega, by omega, by omega⟩ (fresh_zeros (by omega))
  · rw [if_neg (by omega), if_neg (by omega)]
noncomputable def B248 : Code := codeOf Tryz.f248
noncomputable def E248 : Env := EV PP 65 []
theorem D248 {args outs : List S} {gout : List (Nat × S)} {e : Fin} {res : S} (hg : Goes E248 B248 (entry 0 args) e gout) (he : e = .normal ∨ e = .ret) (hle : Nat.ble args.length 65 = true)
    (hfin : finE (tabOf PP) gout Tryz.f248.results.toList args [] = some (outs, res)) : Den PP 248 args outs res :=
  den_tab (fn := Tryz.f248) (c := B248) (by kernel_rfl) (by kernel_rfl) (by kernel_rfl) (by kernel_rfl) hle hfin hg he
noncomputable def L248a : Code := sub [true, true, true, true, true, false, true, false, false] B248
def sDown (ou a : List Nat) (w b i : Nat) : List (Nat × S) := [(0, (W a)), (5, (num .i64 ((w : Nat) : Int))), (6, (num .i64 ((b : Nat) : Int))), (7, (WO ou)), (26, (num .i64 ((ou.length : Nat) : Int))), (27, (num .i64 ((i : Nat) : Int)))]
theorem down_in {ou r a : List Nat} {w b i x y : Nat}
    (h1 : (decide (((i : Nat) : Int) < ((ou.length : Nat) : Int))) = true)
    (h2 : inR .i64 (((w : Nat) : Int) + ((i : Nat) : Int)))
    (h3 : idx a.length (((w : Nat) : Int) + ((i : Nat) : Int)))
    (h4 : (wr .u64 (a.getD (Int.toNat (((w : Nat) : Int) + ((i : Nat) : Int))) 0 : Int)) = ((x : Nat) : Int))
    (h5 : inR .i64 ((((w : Nat) : Int) + ((i : Nat) : Int)) + (1:Int)))
    (h6 : (decide (((((w : Nat) : Int) + ((i : Nat) : Int)) + (1:Int)) < (a.length : Int))) = true)
    (h7 : idx a.length ((((w : Nat) : Int) + ((i : Nat) : Int)) + (1:Int)))
    (h8 : 0 ≤ (32:Int) ∧ True)
    (h9 : ((IntKind.u64).wrap (((BitVec.ofInt (IntKind.u64).bits ((x : Nat) : Int)) ||| (BitVec.ofInt (IntKind.u64).bits (wr .u64 ((wr .u64 (a.getD (Int.toNat ((((w : Nat) : Int) + ((i : Nat) : Int)) + (1:Int))) 0 : Int)) * 2 ^ (min (Int.toNat (32:Int)) (IntKind.u64).bits))))).toNat : Int)) = ((y : Nat) : Int))
    (h10 : 0 ≤ ((b : Nat) : Int))
    (h11 : idx ou.length ((i : Nat) : Int))
    (h12 : inR .i64 (((i : Nat) : Int) + (1:Int)))
    (h13 : ou.length = r.length ∧ FEq ou.length 1 (updF (wf ou) (Int.toNat ((i : Nat) : Int)) 0 [(.d (.v (.int .u32 (wr .u32 (((y : Nat) : Int) / 2 ^ (min (Int.toNat ((b : Nat) : Int)) (IntKind.u64).bits))))))]) (wf r))
    (h14 : ((ou.length : Nat) : Int) = ((r.length : Nat) : Int))
    (h15 : (((i : Nat) : Int) + (1:Int)) = ((i + 1 : Nat) : Int)) :
    Goes E248 L248a (sDown ou a w b i) .normal (sDown r a w b (i + 1)) :=
  pathG [.r [] [0, 5, 6, 7, 26, 27, 28], .t true, .r [] [0, 5, 6, 7, 8, 26, 27, 28], .r [] [0, 5, 6, 7, 8, 9, 26, 27, 28], .u [(0, (W a)), (5, (num .i64 ((w : Nat) : Int))), (6, (num .i64 ((b : Nat) : Int))), (7, (WO ou)), (8, (num .i64 ((i : Nat) : Int))), (9, (num .u64 ((x : Nat) : Int))), (26, (num .i64 ((ou.length : Nat) : Int))), (27, (num .i64 ((i : Nat) : Int)))], .r [] [0, 5, 6, 7, 8, 9, 26, 27, 43], .t true, .r [] [0, 5, 6, 7, 8, 9, 26, 27, 43], .u [(0, (W a)), (5, (num .i64 ((w : Nat) : Int))), (6, (num .i64 ((b : Nat) : Int))), (7, (WO ou)), (8, (num .i64 ((i : Nat) : Int))), (9, (num .u64 ((y : Nat) : Int))), (26, (num .i64 ((ou.length : Nat) : Int))), (27, (num .i64 ((i : Nat) : Int)))], .r [] [0, 5, 6, 7, 8, 9, 26, 27], .r [] [0, 5, 6, 7, 8, 9, 26, 27]] ((cc h1 (cc h2 (cc h3 (cc tt (cc (fq a.length 1 (wf a)) (cc (er ((w : Nat) : Int)) (cc (er ((b : Nat) : Int)) (cc (fq ou.length 1 (wf ou)) (cc (er ((i : Nat) : Int)) (cc h4 (cc (er ((ou.length : Nat) : Int)) (cc (er ((i : Nat) : Int)) (cc h2 (cc h5 (cc h6 (cc h2 (cc h5 (cc h7 (cc tt (cc h8 (cc tt (cc (fq a.length 1 (wf a)) (cc (er ((w : Nat) : Int)) (cc (er ((b : Nat) : Int)) (cc (fq ou.length 1 (wf ou)) (cc (er ((i : Nat) : Int)) (cc h9 (cc (er ((ou.length : Nat) : Int)) (cc (er ((i : Nat) : Int)) (cc h10 (cc tt (cc h11 (cc h12 (cc (fq a.length 1 (wf a)) (cc (er ((w : Nat) : Int)) (cc (er ((b : Nat) : Int)) (cc h13 (cc h14 (cc h15 nn)))))))))))))))))))))))))))))))))))))))) (by kernel_rfl)
theorem down_last {ou r a : List Nat} {w b i x : Nat}
    (h1 : (decide (((i : Nat) : Int) < ((ou.length : Nat) : Int))) = true)
    (h2 : inR .i64 (((w : Nat) : Int) + ((i : Nat) : Int)))
    (h3 : idx a.length (((w : Nat) : Int) + ((i : Nat) : Int)))
    (h4 : (wr .u64 (a.getD (Int.toNat (((w : Nat) : Int) + ((i : Nat) : Int))) 0 : Int)) = ((x : Nat) : Int))
    (h5 : inR .i64 ((((w : Nat) : Int) + ((i : Nat) : Int)) + (1:Int)))
    (h6 : (decide (((((w : Nat) : Int) + ((i : Nat) : Int)) + (1:Int)) < (a.length : Int))) = false)
    (h7 : 0 ≤ ((b : Nat) : Int))
    (h8 : idx ou.length ((i : Nat) : Int))
    (h9 : inR .i64 (((i : Nat) : Int) + (1:Int)))
    (h10 : ou.length = r.length ∧ FEq ou.length 1 (updF (wf ou) (Int.toNat ((i : Nat) : Int)) 0 [(.d (.v (.int .u32 (wr .u32 (((x : Nat) : Int) / 2 ^ (min (Int.toNat ((b : Nat) : Int)) (IntKind.u64).bits))))))]) (wf r))
    (h11 : ((ou.length : Nat) : Int) = ((r.length : Nat) : Int))
    (h12 : (((i : Nat) : Int) + (1:Int)) = ((i + 1 : Nat) : Int)) :
    Goes E248 L248a (sDown ou a w b i) .normal (sDown r a w b (i + 1)) :=
  pathG [.r [] [0, 5, 6, 7, 26, 27, 28], .t true, .r [] [0, 5, 6, 7, 8, 26, 27, 28], .r [] [0, 5, 6, 7, 8, 9, 26, 27, 28], .u [(0, (W a)), (5, (num .i64 ((w : Nat) : Int))), (6, (num .i64 ((b : Nat) : Int))), (7, (WO ou)), (8, (num .i64 ((i : Nat) : Int))), (9, (num .u64 ((x : Nat) : Int))), (26, (num .i64 ((ou.length : Nat) : Int))), (27, (num .i64 ((i : Nat) : Int)))], .r [] [0, 5, 6, 7, 8, 9, 26, 27, 43], .t false, .r [] [0, 5, 6, 7, 8, 9, 26, 27, 43], .r [] [0, 5, 6, 7, 8, 9, 26, 27, 43]] ((cc h1 (cc h2 (cc h3 (cc tt (cc (fq a.length 1 (wf a)) (cc (er ((w : Nat) : Int)) (cc (er ((b : Nat) : Int)) (cc (fq ou.length 1 (wf ou)) (cc (er ((i : Nat) : Int)) (cc h4 (cc (er ((ou.length : Nat) : Int)) (cc (er ((i : Nat) : Int)) (cc h2 (cc h5 (cc h6 (cc h7 (cc tt (cc h8 (cc h9 (cc (fq a.length 1 (wf a)) (cc (er ((w : Nat) : Int)) (cc (er ((b : Nat) : Int)) (cc h10 (cc h11 (cc h12 nn)))))))))))))))))))))))))) (by kernel_rfl)
theorem down_out {ou a : List Nat} {w b i : Nat}
    (h1 : (decide (((i : Nat) : Int) < ((ou.length : Nat) : Int))) = false) :
    Goes E248 L248a (sDown ou a w b i) (.exit 0) (sDown ou a w b i) :=
  pathG [.r [] [0, 5, 6, 7, 26, 27, 28], .t false] ((cc h1 (cc (fq a.length 1 (wf a)) (cc (er ((w : Nat) : Int)) (cc (er ((b : Nat) : Int)) (cc (fq ou.length 1 (wf ou)) (cc (er ((ou.length : Nat) : Int)) (cc (er ((i : Nat) : Int)) nn)))))))) (by kernel_rfl)
theorem down_nil {a : List Nat} {n w b : Nat}
    (h1 : (if (0:Int) > ((n : Nat) : Int) then (0:Int) else ((n : Nat) : Int)) = ((n : Nat) : Int))
    (h2 : (32:Int) ≠ 0 ∧ (inR .i64 (Int.tdiv ((n : Nat) : Int) (32:Int))))
    (h3 : (32:Int) ≠ 0)
    (h4 : (Int.tdiv ((n : Nat) : Int) (32:Int)) = ((w : Nat) : Int))
    (h5 : (Int.tmod ((n : Nat) : Int) (32:Int)) = ((b : Nat) : Int))
    (h6 : (decide (((w : Nat) : Int) ≥ (a.length : Int))) = true)
    (h7 : ([] : List Nat).length = 0) :
    Goes E248 B248 [(0, (W a)), (1, (num .i64 ((n : Nat) : Int)))] .ret [(4, (W ([] : List Nat)))] :=
  pathG [.r [] [0, 1, 4], .r [] [0, 1, 4], .u [(0, (W a)), (1, (num .i64 ((n : Nat) : Int))), (4, (.one false [(.app 0 0 (fun _ _ => .v undef))]))], .r [] [0, 1, 4, 5, 6], .u [(0, (W a)), (4, (.one false [(.app 0 0 (fun _ _ => .v undef))])), (5, (num .i64 ((w : Nat) : Int))), (6, (num .i64 ((b : Nat) : Int)))], .r [] [0, 4, 5, 6, 19], .t true, .r [] [0, 4, 5, 6, 19]] ((cc (fq a.length 1 (wf a)) (cc h1 (cc (er 0) (cc h2 (cc h3 (cc (fq a.length 1 (wf a)) (cc (er 0) (cc h4 (cc h5 (cc h6 (cc h7 nn)))))))))))) (by kernel_rfl)
theorem down_all {ou g r a : List Nat} {n w b : Nat}
    (h1 : Loops E248 L248a (sDown ou a w b 0) (.exit 0) (sDown g a w b g.length))
    (h2 : Den PP 168 [(W g)] [(W g)] (W r))
    (h3 : (if (0:Int) > ((n : Nat) : Int) then (0:Int) else ((n : Nat) : Int)) = ((n : Nat) : Int))
    (h4 : (32:Int) ≠ 0 ∧ (inR .i64 (Int.tdiv ((n : Nat) : Int) (32:Int))))
    (h5 : (32:Int) ≠ 0)
    (h6 : (Int.tdiv ((n : Nat) : Int) (32:Int)) = ((w : Nat) : Int))
    (h7 : (Int.tmod ((n : Nat) : Int) (32:Int)) = ((b : Nat) : Int))
    (h8 : (decide (((w : Nat) : Int) ≥ (a.length : Int))) = false)
    (h9 : inR .i64 ((a.length : Int) - ((w : Nat) : Int)))
    (h10 : ((a.length : Int) - ((w : Nat) : Int)) = ((a.length : Int) - ((w : Nat) : Int)) ∧ 0 ≤ ((a.length : Int) - ((w : Nat) : Int)) ∧ ((a.length : Int) - ((w : Nat) : Int)) ≤ 140737488355328 ∧ ((a.length : Int) - ((w : Nat) : Int)) * 4 ≤ 140737488355328)
    (h11 : (Int.toNat ((a.length : Int) - ((w : Nat) : Int))) = ou.length ∧ FEq (Int.toNat ((a.length : Int) - ((w : Nat) : Int))) 1 (fun _ i => cellD ((([(.d (.v (.int .u32 (0:Int))))]).getD i nilC).plain)) (wf ou))
    (h12 : ((Int.toNat ((a.length : Int) - ((w : Nat) : Int))) : Int) = ((ou.length : Nat) : Int)) :
    Goes E248 B248 [(0, (W a)), (1, (num .i64 ((n : Nat) : Int)))] .ret [(4, (W r))] :=
  pathG [.r [] [0, 1, 4], .r [] [0, 1, 4], .u [(0, (W a)), (1, (num .i64 ((n : Nat) : Int))), (4, (.one false [(.app 0 0 (fun _ _ => .v undef))]))], .r [] [0, 1, 4, 5, 6], .u [(0, (W a)), (4, (.one false [(.app 0 0 (fun _ _ => .v undef))])), (5, (num .i64 ((w : Nat) : Int))), (6, (num .i64 ((b : Nat) : Int)))], .r [] [0, 4, 5, 6, 19], .t false, .r [] [0, 4, 5, 6, 7, 19], .r [] [0, 4, 5, 6, 7, 19, 26, 27], .l (sDown ou a w b 0) (.exit 0) (sDown g a w b g.length), .f 7, .r [.c [(W g)] [(W g)] (W r)] [0, 4, 5, 6, 7, 26, 27]] ((cc (fq a.length 1 (wf a)) (cc h3 (cc (er 0) (cc h4 (cc h5 (cc (fq a.length 1 (wf a)) (cc (er 0) (cc h6 (cc h7 (cc h8 (cc h9 (cc h10 (cc (fq a.length 1 (wf a)) (cc (er ((w : Nat) : Int)) (cc (er ((b : Nat) : Int)) (cc h11 (cc h12 (cc (er (0:Int)) (cc h1 (cc (fq g.length 1 (wf g)) (cc h2 (cc (fq r.length 1 (wf r)) nn))))))))))))))))))))))) (by kernel_rfl)

theorem val_div {l : List Nat} (h : Wd l) (i : Nat) : val l / 4294967296 ^ i = val (l.drop i) := by
  by_cases hi : i ≤ l.length
  · rw [val_split l i hi, Nat.add_mul_div_left _ _ (Bpos i), Nat.div_eq_of_lt (val_take_lt h i), Nat.zero_add]
  · rw [List.drop_of_length_le (by omega), val]
    exact Nat.div_eq_of_lt (Nat.lt_of_lt_of_le (val_lt h) (Nat.pow_le_pow_right (by omega) (by omega)))
theorem val_drop (l : List Nat) (k : Nat) : val (l.drop k) = l.getD k 0 + 4294967296 * val (l.drop (k + 1)) := by
  by_cases h : k < l.length
  · rw [List.drop_eq_getElem_cons h, val, List.getD_eq_getElem?_getD, List.getElem?_eq_getElem h]; rfl
  · rw [List.drop_of_length_le (by omega), List.drop_of_length_le (by omega), List.getD_eq_getElem?_getD, List.getElem?_eq_none (by omega)]; rfl
/-- a word of what is shifted down -/
theorem down_dig {a : List Nat} (ha : Wd a) (w b i : Nat) (hb : b < 32) : (a.getD (w + i) 0 + 4294967296 * a.getD (w + i + 1) 0) / 2 ^ b % 4294967296 = val (a.drop w) / 2 ^ b / 4294967296 ^ i % 4294967296 := by
  rw [Nat.div_div_eq_div_mul (val (a.drop w)), Nat.mul_comm (2 ^ b), ← Nat.div_div_eq_div_mul, val_div (ha.drop w), List.drop_drop, val_drop a (w + i), val_drop a (w + i + 1)]
  generalize val (a.drop (w + i + 1 + 1)) = r
  generalize a.getD (w + i) 0 = x
  generalize a.getD (w + i + 1) 0 = y
  have e : x + 4294967296 * (y + 4294967296 * r) = (x + 4294967296 * y) + 2 ^ b * (4294967296 * (2 ^ (32 - b) * r)) := by
    have : 2 ^ b * (4294967296 * (2 ^ (32 - b) * r)) = 4294967296 * (4294967296 * r) := by
      rw [Nat.mul_left_comm (2 ^ b), ← Nat.mul_assoc (2 ^ b), ← B_split hb]
    omega
  rw [e, Nat.add_mul_div_left _ _ (Nat.pow_pos (by omega)), Nat.add_mul_mod_self_left]
theorem down_set (Q i m v : Nat) (hi : i < m) (hv : v = Q / 4294967296 ^ i % 4294967296) : (digs i Q ++ List.replicate (m - i) 0).set i v = digs (i + 1) Q ++ List.replicate (m - (i + 1)) 0 := by
  rw [show m - i = (m - (i + 1)) + 1 by omega, List.replicate_succ, set_app _ _ _ _ _ (digs_len _ _).symm, digs_succ, hv]
  simp
theorem down_loop (a : List Nat) (w b : Nat) (ha : Wd a) (la : a.length ≤ 2147483648) (hw : w < a.length) (hb : b < 32) : ∀ (j i : Nat), i + j = a.length - w →
    Loops E248 L248a (sDown (digs i (val (a.drop w) / 2 ^ b) ++ List.replicate (a.length - w - i) 0) a w b i) (.exit 0)
      (sDown (digs (a.length - w) (val (a.drop w) / 2 ^ b)) a w b (digs (a.length - w) (val (a.drop w) / 2 ^ b)).length)
  | 0, i, hi => by
    have : i = a.length - w := by omega
    subst this
    rw [Nat.sub_self, List.replicate_zero, List.append_nil, digs_len]
    exact .leave (down_out (decide_eq_false (by rw [digs_len]; omega))) (fun h => by cases h)
  | j + 1, i, hi => by
    have hx := ha.getD (w + i)
    have hx1 := ha.getD (w + i + 1)
    have hd := down_dig ha w b i hb
    have hs := down_set (val (a.drop w) / 2 ^ b) i (a.length - w) _ (by omega) hd
    have hlen : (digs i (val (a.drop w) / 2 ^ b) ++ List.replicate (a.length - w - i) 0).length = a.length - w := by
      simp only [List.length_append, digs_len, List.length_replicate]; omega
    have hlen1 : (digs (i + 1) (val (a.drop w) / 2 ^ b) ++ List.replicate (a.length - w - (i + 1)) 0).length = a.length - w := by
      simp only [List.length_append, digs_len, List.length_replicate]; omega
    have ht : Int.toNat (((w : Nat) : Int) + ((i : Nat) : Int)) = w + i := by omega
    have ht2 : Int.toNat ((((w : Nat) : Int) + ((i : Nat) : Int)) + (1:Int)) = w + i + 1 := by omega
    have e1 : wr .u64 ((a.getD (w + i) 0 : Nat) : Int) = ((a.getD (w + i) 0 : Nat) : Int) := by rw [wr64]; omega
    have e2 : wr .u64 (wr .u64 ((a.getD (w + i + 1) 0 : Nat) : Int) * 2 ^ (min (Int.toNat (32:Int)) (IntKind.u64).bits)) = ((a.getD (w + i + 1) 0 * 4294967296 : Nat) : Int) := by
      rw [show (2 : Int) ^ (min (Int.toNat (32:Int)) (IntKind.u64).bits) = 4294967296 by decide, wr64, wr64]; omega
    have ho : a.getD (w + i) 0 ||| a.getD (w + i + 1) 0 * 4294967296 = a.getD (w + i) 0 + 4294967296 * a.getD (w + i + 1) 0 := by
      rw [Nat.or_comm, or_low _ _ hx]; omega
    have hset : ∀ y : Nat, y = a.getD (w + i) 0 + 4294967296 * a.getD (w + i + 1) 0 → (digs i (val (a.drop w) / 2 ^ b) ++ List.replicate (a.length - w - i) 0).length = (digs (i + 1) (val (a.drop w) / 2 ^ b) ++ List.replicate (a.length - w - (i + 1)) 0).length ∧
        FEq (digs i (val (a.drop w) / 2 ^ b) ++ List.replicate (a.length - w - i) 0).length 1 (updF (wf (digs i (val (a.drop w) / 2 ^ b) ++ List.replicate (a.length - w - i) 0)) (Int.toNat ((i : Nat) : Int)) 0 [(.d (.v (.int .u32 (wr .u32 (((y : Nat) : Int) / 2 ^ (min (Int.toNat ((b : Nat) : Int)) (IntKind.u64).bits))))))]) (wf (digs (i + 1) (val (a.drop w) / 2 ^ b) ++ List.replicate (a.length - w - (i + 1)) 0)) := by
      intro y hy
      have := FEqset _ _ _ (by omega) hs
      rw [sh64 b (by omega), ← Int.natCast_ediv, wr32, hy, show (((a.getD (w + i) 0 + 4294967296 * a.getD (w + i + 1) 0) / 2 ^ b : Nat) : Int) % 4294967296 = (((a.getD (w + i) 0 + 4294967296 * a.getD (w + i + 1) 0) / 2 ^ b % 4294967296 : Nat) : Int) by omega]
      exact this
    have rest := down_loop a w b ha la hw hb j (i + 1) (by omega)
    by_cases hlast : w + i + 1 < a.length
    · refine .again (down_in (x := a.getD (w + i) 0) (y := a.getD (w + i) 0 + 4294967296 * a.getD (w + i + 1) 0) ?_ ?_ ?_ ?_ ?_ ?_ ?_ ?_ ?_ ?_ ?_ ?_ (hset _ rfl) ?_ ?_) rest
      all_goals first
        | exact decide_eq_true (by omega)
        | exact ⟨by omega, by omega⟩
        | exact i64_ok (by omega) (by omega)
        | omega
        | (rw [ht]; exact e1)
        | exact ⟨by omega, trivial⟩
        | (rw [ht2, e2, or64 _ _ (by omega) (by omega) (by rw [ho]; omega), ho])
    · have h0 : a.getD (w + i + 1) 0 = 0 := by rw [List.getD_eq_getElem?_getD, List.getElem?_eq_none (by omega)]; rfl
      refine .again (down_last (x := a.getD (w + i) 0) ?_ ?_ ?_ ?_ ?_ ?_ ?_ ?_ ?_ (hset _ (by omega)) ?_ ?_) rest
      all_goals first
        | exact decide_eq_true (by omega)
        | exact decide_eq_false (by omega)
        | exact ⟨by omega, by omega⟩
        | exact i64_ok (by omega) (by omega)
        | omega
        | (rw [ht]; exact e1)
theorem down_val {a : List Nat} (ha : Wd a) (n : Nat) : val (a.drop (n / 32)) / 2 ^ (n % 32) = val a / 2 ^ n := by
  rw [← val_div ha, Nat.div_div_eq_div_mul, show (4294967296 : Nat) = 2 ^ 32 by rfl, ← Nat.pow_mul, ← Nat.pow_add, show 32 * (n / 32) + n % 32 = n by omega]
theorem twos_down (a : List Nat) (n : Nat) (ha : Wd a) (la : a.length ≤ 1073741824) (hn : n ≤ 2147483648) :
    Den PP 248 [W a, num .i64 (n : Int)] [W a, num .i64 (n : Int)] (W (wd (val a / 2 ^ n))) := by
  refine D248 (gout := [(4, W (wd (val a / 2 ^ n)))]) (e := .ret) ?_ (.inr rfl) (by kernel_rfl) (by kernel_rfl)
  have hq : Int.tdiv ((n : Nat) : Int) (32:Int) = ((n / 32 : Nat) : Int) := rfl
  have hr : Int.tmod ((n : Nat) : Int) (32:Int) = ((n % 32 : Nat) : Int) := rfl
  by_cases hw : a.length ≤ n / 32
  · have h0 : val a / 2 ^ n = 0 := by
      rw [← down_val ha, List.drop_of_length_le hw, val, Nat.zero_div]
    rw [h0, wd_zero]
    refine down_nil (n := n) (w := n / 32) (b := n % 32) ?_ ?_ ?_ ?_ ?_ ?_ ?_
    all_goals first
      | exact ⟨by omega, by rw [hq]; exact i64_ok (by omega) (by omega)⟩
      | rfl
      | omega
      | exact decide_eq_true (by omega)
      | (rw [if_neg (by omega)])
  · have hloop := down_loop a (n / 32) (n % 32) ha (by omega) (by omega) (Nat.mod_lt _ (by omega)) (a.length - n / 32) 0 (by omega)
    rw [digs, List.nil_append, Nat.sub_zero, down_val ha] at hloop
    have hn := (nat_norm (digs (a.length - n / 32) (val a / 2 ^ n)) (by rw [digs_len]; omega)).plain
    have hlt : val a / 2 ^ n < 4294967296 ^ (a.length - n / 32) := by
      have h1 := val_lt (ha.drop (n / 32))
      rw [List.length_drop] at h1
      rw [← down_val ha]
      exact Nat.lt_of_le_of_lt (Nat.div_le_self _ _) h1
    rw [trim_digs_lt hlt] at hn
    refine down_all (n := n) hloop hn ?_ ?_ ?_ ?_ ?_ ?_ ?_ ?_ ?_ ?_
    all_goals first
      | exact ⟨by omega, by rw [hq]; exact i64_ok (by omega) (by omega)⟩
      | rfl
      | omega
      | exact i64_ok (by omega) (by omega)
      | exact ⟨rfl, by omega, by omega, by omega⟩
      | exact decide_eq_false (by omega)
      | exact fresh_zeros (by omega)
      | (rw [if_neg (by omega)])
      | (rw [List.length_replicate]; omega)
      | skip
end Go.X
