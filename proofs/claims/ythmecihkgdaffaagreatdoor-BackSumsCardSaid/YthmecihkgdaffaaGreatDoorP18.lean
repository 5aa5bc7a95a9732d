/- Part 18 of the proof of BackSums: Paths and contracts. Paths and contracts. Paths and contracts. No conditions but those that each theorem names. -/
import Derived.Test.YthmecihkgdaffaaGreatDoorP17
namespace Go.X
open Go Go.Proofs
noncomputable def B247 : Code := codeOf Tryz.f247
noncomputable def E247 : Env := EV PP 70 [0]
theorem D247 {args outs : List S} {gout : List (Nat × S)} {e : Fin} {res : S} (hg : Goes E247 B247 (entry 0 args) e gout) (he : e = .normal ∨ e = .ret) (hle : Nat.ble args.length 70 = true)
    (hfin : finE (tabOf PP) gout Tryz.f247.results.toList args [0] = some (outs, res)) : Den PP 247 args outs res :=
  den_tab (fn := Tryz.f247) (c := B247) (by kernel_rfl) (by kernel_rfl) (by kernel_rfl) (by kernel_rfl) hle hfin hg he
noncomputable def L247a : Code := sub [true, true, true, false, true, false, false] B247
def sLg (a b q : List Nat) (i : Int) : List (Nat × S) := [(0, (WO a)), (1, (W b)), (5, (num .i64 ((b.length : Nat) : Int))), (6, (WO q)), (7, (num .i64 i))]
theorem lg_no {a a1 b q p : List Nat} {i k : Int} {x c2 c1 c0 d1 d0 : Nat}
    (h1 : Den PP 276 [(u c2), (u c1), (u c0), (u d1), (u d0)] [(u c2), (u c1), (u c0), (u d1), (u d0)] (u x))
    (h2 : Den PP 277 [(WO a), (num .i64 i), (W b), (u x)] [(WO a1), (num .i64 i), (W b), (u x)] (bl false))
    (h3 : (decide (i ≥ (0:Int))) = true)
    (h4 : inR .i64 (i + ((b.length : Nat) : Int)))
    (h5 : idx a.length (i + ((b.length : Nat) : Int)))
    (h6 : inR .i64 ((i + ((b.length : Nat) : Int)) - (1:Int)))
    (h7 : idx a.length ((i + ((b.length : Nat) : Int)) - (1:Int)))
    (h8 : inR .i64 ((i + ((b.length : Nat) : Int)) - (2:Int)))
    (h9 : idx a.length ((i + ((b.length : Nat) : Int)) - (2:Int)))
    (h10 : inR .i64 (((b.length : Nat) : Int) - (1:Int)))
    (h11 : idx b.length (((b.length : Nat) : Int) - (1:Int)))
    (h12 : inR .i64 (((b.length : Nat) : Int) - (2:Int)))
    (h13 : idx b.length (((b.length : Nat) : Int) - (2:Int)))
    (h14 : (a.getD (Int.toNat (i + ((b.length : Nat) : Int))) 0 : Int) = ((c2 : Nat) : Int))
    (h15 : (a.getD (Int.toNat ((i + ((b.length : Nat) : Int)) - (1:Int))) 0 : Int) = ((c1 : Nat) : Int))
    (h16 : (a.getD (Int.toNat ((i + ((b.length : Nat) : Int)) - (2:Int))) 0 : Int) = ((c0 : Nat) : Int))
    (h17 : (b.getD (Int.toNat (((b.length : Nat) : Int) - (1:Int))) 0 : Int) = ((d1 : Nat) : Int))
    (h18 : (b.getD (Int.toNat (((b.length : Nat) : Int) - (2:Int))) 0 : Int) = ((d0 : Nat) : Int))
    (h19 : idx q.length i)
    (h20 : inR .i64 (i - (1:Int)))
    (h21 : q.length = p.length ∧ FEq q.length 1 (updF (wf q) (Int.toNat i) 0 [(.d (.v (.int .u32 ((x : Nat) : Int))))]) (wf p))
    (h22 : (i - (1:Int)) = k) :
    Goes E247 L247a (sLg a b q i) .normal (sLg a1 b p k) :=
  pathG [.r [] [0, 1, 5, 6, 7, 20], .t true, .r [.c [(u c2), (u c1), (u c0), (u d1), (u d0)] [(u c2), (u c1), (u c0), (u d1), (u d0)] (u x)] [0, 1, 5, 6, 7, 8, 20], .r [.c [(WO a), (num .i64 i), (W b), (u x)] [(WO a1), (num .i64 i), (W b), (u x)] (bl false)] [0, 1, 5, 6, 7, 8, 20, 58], .t false, .r [] [0, 1, 5, 6, 7, 8, 20, 58], .r [] [0, 1, 5, 6, 7, 8, 20, 58]] ((cc h3 (cc h4 (cc h5 (cc h4 (cc h6 (cc h7 (cc h4 (cc h8 (cc h9 (cc h10 (cc h11 (cc h12 (cc h13 (cc h14 (cc h15 (cc h16 (cc h17 (cc h18 (cc h1 (cc (fq a.length 1 (wf a)) (cc (er i) (cc (fq b.length 1 (wf b)) (cc (er ((x : Nat) : Int)) (cc h2 (cc (er false) (cc h19 (cc h20 (cc (fq a1.length 1 (wf a1)) (cc (fq b.length 1 (wf b)) (cc (er ((b.length : Nat) : Int)) (cc h21 (cc h22 nn))))))))))))))))))))))))))))))))) (by kernel_rfl)
theorem lg_yes {a a1 a2 b q p : List Nat} {i k : Int} {x y c2 c1 c0 d1 d0 : Nat}
    (h1 : Den PP 276 [(u c2), (u c1), (u c0), (u d1), (u d0)] [(u c2), (u c1), (u c0), (u d1), (u d0)] (u x))
    (h2 : Den PP 277 [(WO a), (num .i64 i), (W b), (u x)] [(WO a1), (num .i64 i), (W b), (u x)] (bl true))
    (h3 : Den PP 278 [(WO a1), (num .i64 i), (W b)] [(WO a2), (num .i64 i), (W b)] (.tup []))
    (h4 : (decide (i ≥ (0:Int))) = true)
    (h5 : inR .i64 (i + ((b.length : Nat) : Int)))
    (h6 : idx a.length (i + ((b.length : Nat) : Int)))
    (h7 : inR .i64 ((i + ((b.length : Nat) : Int)) - (1:Int)))
    (h8 : idx a.length ((i + ((b.length : Nat) : Int)) - (1:Int)))
    (h9 : inR .i64 ((i + ((b.length : Nat) : Int)) - (2:Int)))
    (h10 : idx a.length ((i + ((b.length : Nat) : Int)) - (2:Int)))
    (h11 : inR .i64 (((b.length : Nat) : Int) - (1:Int)))
    (h12 : idx b.length (((b.length : Nat) : Int) - (1:Int)))
    (h13 : inR .i64 (((b.length : Nat) : Int) - (2:Int)))
    (h14 : idx b.length (((b.length : Nat) : Int) - (2:Int)))
    (h15 : (a.getD (Int.toNat (i + ((b.length : Nat) : Int))) 0 : Int) = ((c2 : Nat) : Int))
    (h16 : (a.getD (Int.toNat ((i + ((b.length : Nat) : Int)) - (1:Int))) 0 : Int) = ((c1 : Nat) : Int))
    (h17 : (a.getD (Int.toNat ((i + ((b.length : Nat) : Int)) - (2:Int))) 0 : Int) = ((c0 : Nat) : Int))
    (h18 : (b.getD (Int.toNat (((b.length : Nat) : Int) - (1:Int))) 0 : Int) = ((d1 : Nat) : Int))
    (h19 : (b.getD (Int.toNat (((b.length : Nat) : Int) - (2:Int))) 0 : Int) = ((d0 : Nat) : Int))
    (h20 : (wr .u32 (((x : Nat) : Int) - (1:Int))) = ((y : Nat) : Int))
    (h21 : idx q.length i)
    (h22 : inR .i64 (i - (1:Int)))
    (h23 : q.length = p.length ∧ FEq q.length 1 (updF (wf q) (Int.toNat i) 0 [(.d (.v (.int .u32 ((y : Nat) : Int))))]) (wf p))
    (h24 : (i - (1:Int)) = k) :
    Goes E247 L247a (sLg a b q i) .normal (sLg a2 b p k) :=
  pathG [.r [] [0, 1, 5, 6, 7, 20], .t true, .r [.c [(u c2), (u c1), (u c0), (u d1), (u d0)] [(u c2), (u c1), (u c0), (u d1), (u d0)] (u x)] [0, 1, 5, 6, 7, 8, 20], .r [.c [(WO a), (num .i64 i), (W b), (u x)] [(WO a1), (num .i64 i), (W b), (u x)] (bl true)] [0, 1, 5, 6, 7, 8, 20, 58], .t true, .r [] [0, 1, 5, 6, 7, 8, 20, 58], .u [(0, (WO a1)), (1, (W b)), (5, (num .i64 ((b.length : Nat) : Int))), (6, (WO q)), (7, (num .i64 i)), (8, (u y)), (20, (.one false [(.d (.v (.bool (decide (i ≥ (0:Int))))))])), (58, (bl true))], .r [.c [(WO a1), (num .i64 i), (W b)] [(WO a2), (num .i64 i), (W b)] (.tup [])] [0, 1, 5, 6, 7, 8, 20, 58], .r [] [0, 1, 5, 6, 7, 8, 20, 58], .r [] [0, 1, 5, 6, 7, 8, 20, 58]] ((cc h4 (cc h5 (cc h6 (cc h5 (cc h7 (cc h8 (cc h5 (cc h9 (cc h10 (cc h11 (cc h12 (cc h13 (cc h14 (cc h15 (cc h16 (cc h17 (cc h18 (cc h19 (cc h1 (cc (fq a.length 1 (wf a)) (cc (er i) (cc (fq b.length 1 (wf b)) (cc (er ((x : Nat) : Int)) (cc h2 (cc (er true) (cc tt (cc (fq a1.length 1 (wf a1)) (cc (fq b.length 1 (wf b)) (cc (er ((b.length : Nat) : Int)) (cc (fq q.length 1 (wf q)) (cc (er i) (cc h20 (cc (er (decide (i ≥ (0:Int)))) (cc (er true) (cc (fq a1.length 1 (wf a1)) (cc (er i) (cc (fq b.length 1 (wf b)) (cc h3 (cc h21 (cc h22 (cc (fq a2.length 1 (wf a2)) (cc (fq b.length 1 (wf b)) (cc (er ((b.length : Nat) : Int)) (cc h23 (cc h24 nn)))))))))))))))))))))))))))))))))))))))))))))) (by kernel_rfl)
theorem lg_out {a b q : List Nat} {i : Int} 
    (h1 : (decide (i ≥ (0:Int))) = false) :
    Goes E247 L247a (sLg a b q i) (.exit 0) (sLg a b q i) :=
  pathG [.r [] [0, 1, 5, 6, 7, 20], .t false] ((cc h1 (cc (fq a.length 1 (wf a)) (cc (fq b.length 1 (wf b)) (cc (er ((b.length : Nat) : Int)) (cc (fq q.length 1 (wf q)) (cc (er i) nn))))))) (by kernel_rfl)
theorem lg_all {a a1 b q p : List Nat} {i k : Int}
    (h1 : Loops E247 L247a (sLg a b q i) (.exit 0) (sLg a1 b p k))
    (h2 : inR .i64 ((a.length : Int) - (b.length : Int)))
    (h3 : ((a.length : Int) - (b.length : Int)) = ((a.length : Int) - (b.length : Int)) ∧ 0 ≤ ((a.length : Int) - (b.length : Int)) ∧ ((a.length : Int) - (b.length : Int)) ≤ 140737488355328 ∧ ((a.length : Int) - (b.length : Int)) * 4 ≤ 140737488355328)
    (h4 : inR .i64 (((Int.toNat ((a.length : Int) - (b.length : Int))) : Int) - (1:Int)))
    (h5 : (Int.toNat ((a.length : Int) - (b.length : Int))) = q.length ∧ FEq (Int.toNat ((a.length : Int) - (b.length : Int))) 1 (fun _ i => cellD ((([(.d (.v (.int .u32 (0:Int))))]).getD i nilC).plain)) (wf q))
    (h6 : (((Int.toNat ((a.length : Int) - (b.length : Int))) : Int) - (1:Int)) = i) :
    Goes E247 B247 [(0, (WO a)), (1, (W b))] .ret [(0, (WO a1)), (4, (.ref ⟨6, 0, none⟩)), (6, (WO p))] :=
  pathG [.r [] [0, 1, 4], .r [] [0, 1, 4, 5], .r [] [0, 1, 4, 5, 6], .r [] [0, 1, 4, 5, 6, 7], .l (sLg a b q i) (.exit 0) (sLg a1 b p k), .r [] [0, 1, 4, 5, 6, 7]] ((cc h2 (cc h3 (cc h4 (cc (fq a.length 1 (wf a)) (cc (fq b.length 1 (wf b)) (cc (er (b.length : Int)) (cc h5 (cc h6 (cc h1 (cc (fq a1.length 1 (wf a1)) (cc (fq p.length 1 (wf p)) nn)))))))))))) (by kernel_rfl)

/-- the guess is the word of the quotient, or one more -/
theorem knuth {P A l B2 bl : Nat} (hP : 0 < P) (hl : l < P) (hbl : bl < P) (hB : 4294967296 ≤ B2) (hW : A * P + l < 4294967296 * (B2 * P + bl)) :
    (gs A B2 * (B2 * P + bl) ≤ A * P + l → (A * P + l) / (B2 * P + bl) = gs A B2) ∧ (A * P + l < gs A B2 * (B2 * P + bl) → 1 ≤ gs A B2 ∧ (A * P + l) / (B2 * P + bl) = gs A B2 - 1) := by
  have hD : 0 < B2 * P + bl := by
    have : 0 < B2 * P := Nat.mul_pos (by omega) hP
    omega
  have hq1 : (A * P + l) / (B2 * P + bl) < 4294967296 := (Nat.div_lt_iff_lt_mul hD).2 hW
  have hq2 : (A * P + l) / (B2 * P + bl) ≤ A / B2 := by
    rw [Nat.le_div_iff_mul_le (by omega)]
    have h1 := Nat.div_mul_le_self (A * P + l) (B2 * P + bl)
    generalize (A * P + l) / (B2 * P + bl) = q at *
    rw [Nat.mul_add, ← Nat.mul_assoc] at h1
    have h2 : q * B2 * P < (A + 1) * P := by rw [Nat.succ_mul]; omega
    have := Nat.lt_of_mul_lt_mul_right h2
    omega
  have hle : (A * P + l) / (B2 * P + bl) ≤ gs A B2 := by unfold gs; omega
  have hg : gs A B2 * B2 ≤ A := Nat.le_trans (Nat.mul_le_mul_right _ (Nat.min_le_right _ _)) (Nat.div_mul_le_self _ _)
  have hg2 : gs A B2 ≤ 4294967295 := Nat.min_le_left _ _
  have hup : gs A B2 * (B2 * P + bl) < A * P + l + (B2 * P + bl) := by
    have h1 : gs A B2 * B2 * P ≤ A * P := Nat.mul_le_mul_right _ hg
    have h2 : gs A B2 * bl ≤ 4294967295 * (P - 1) := Nat.mul_le_mul hg2 (by omega)
    have h3 : 4294967296 * P ≤ B2 * P := Nat.mul_le_mul_right _ hB
    rw [Nat.mul_add, ← Nat.mul_assoc]
    rw [Nat.mul_sub] at h2
    omega
  constructor
  · intro h
    have := (Nat.le_div_iff_mul_le hD).2 h
    omega
  · intro h
    have h1 : 1 ≤ gs A B2 := by
      rcases Nat.eq_zero_or_pos (gs A B2) with h0 | h0
      · rw [h0, Nat.zero_mul] at h; omega
      · exact h0
    refine ⟨h1, ?_⟩
    have h2 : gs A B2 - 1 ≤ (A * P + l) / (B2 * P + bl) := by
      rw [Nat.le_div_iff_mul_le hD, Nat.sub_mul, Nat.one_mul]
      omega
    have h3 : (A * P + l) / (B2 * P + bl) < gs A B2 := by
      rw [Nat.div_lt_iff_lt_mul hD]; exact h
    omega
/-- words of a window -/
theorem win3 (W n : Nat) (h : W < 4294967296 ^ (n + 3)) : (W / 4294967296 ^ (n + 2) % 4294967296 * 4294967296 + W / 4294967296 ^ (n + 1) % 4294967296) * 4294967296 + W / 4294967296 ^ n % 4294967296 = W / 4294967296 ^ n := by
  have e1 : W / 4294967296 ^ (n + 1) = W / 4294967296 ^ n / 4294967296 := by rw [Nat.div_div_eq_div_mul, Nat.pow_succ]
  have e2 : W / 4294967296 ^ (n + 2) = W / 4294967296 ^ n / 4294967296 / 4294967296 := by rw [Nat.div_div_eq_div_mul, Nat.div_div_eq_div_mul, Nat.pow_succ, Nat.pow_succ, Nat.mul_assoc]
  have h3 : W / 4294967296 ^ n < 4294967296 * 4294967296 * 4294967296 := by
    rw [Nat.div_lt_iff_lt_mul (Bpos n), Nat.mul_comm]; rw [Nat.pow_succ, Nat.pow_succ, Nat.pow_succ, Nat.mul_assoc, Nat.mul_assoc] at h; rw [Nat.mul_assoc]; exact h
  rw [e1, e2]
  generalize W / 4294967296 ^ n = x at *
  omega
theorem win2 (D n : Nat) (h : D < 4294967296 ^ (n + 2)) : D / 4294967296 ^ (n + 1) % 4294967296 * 4294967296 + D / 4294967296 ^ n % 4294967296 = D / 4294967296 ^ n := by
  have e1 : D / 4294967296 ^ (n + 1) = D / 4294967296 ^ n / 4294967296 := by rw [Nat.div_div_eq_div_mul, Nat.pow_succ]
  have h3 : D / 4294967296 ^ n < 4294967296 * 4294967296 := by
    rw [Nat.div_lt_iff_lt_mul (Bpos n), Nat.mul_comm]; rw [Nat.pow_succ, Nat.pow_succ, Nat.mul_assoc] at h; exact h
  rw [e1]
  generalize D / 4294967296 ^ n = x at *
  omega
/-- one word of the quotient: what the window is, and what is left of it -/
theorem lg_math {W D n : Nat} (hn : 2 ≤ n) (_hD : D < 4294967296 ^ n) (hD2 : 4294967296 ^ (n - 1) ≤ D) (hW : W < 4294967296 * D) :
    (gs (W / 4294967296 ^ (n - 2)) (D / 4294967296 ^ (n - 2)) * D ≤ W → W / D = gs (W / 4294967296 ^ (n - 2)) (D / 4294967296 ^ (n - 2))) ∧
    (W < gs (W / 4294967296 ^ (n - 2)) (D / 4294967296 ^ (n - 2)) * D → 1 ≤ gs (W / 4294967296 ^ (n - 2)) (D / 4294967296 ^ (n - 2)) ∧ W / D = gs (W / 4294967296 ^ (n - 2)) (D / 4294967296 ^ (n - 2)) - 1) := by
  have hP := Bpos (n - 2)
  have hB : 4294967296 ≤ D / 4294967296 ^ (n - 2) := by
    rw [Nat.le_div_iff_mul_le hP, ← Bsucc, show n - 2 + 1 = n - 1 by omega]; exact hD2
  have e1 : W / 4294967296 ^ (n - 2) * 4294967296 ^ (n - 2) + W % 4294967296 ^ (n - 2) = W := Nat.div_add_mod' _ _
  have e2 : D / 4294967296 ^ (n - 2) * 4294967296 ^ (n - 2) + D % 4294967296 ^ (n - 2) = D := Nat.div_add_mod' _ _
  have := knuth (A := W / 4294967296 ^ (n - 2)) (l := W % 4294967296 ^ (n - 2)) (bl := D % 4294967296 ^ (n - 2)) hP (Nat.mod_lt _ hP) (Nat.mod_lt _ hP) hB (by rw [e1, e2]; exact hW)
  rw [e1, e2] at this
  exact this
theorem top_le {W D n : Nat} (hn : 1 ≤ n) (hW : W < 4294967296 * D) : W / 4294967296 ^ n ≤ D / 4294967296 ^ (n - 1) := by
  have : W / 4294967296 ^ n = W / 4294967296 / 4294967296 ^ (n - 1) := by
    rw [Nat.div_div_eq_div_mul, ← Bsucc, show n - 1 + 1 = n by omega]
  rw [this]
  refine Nat.div_le_div_right ?_
  have := (Nat.div_lt_iff_lt_mul (show 0 < 4294967296 by omega)).2 (by rw [Nat.mul_comm] at hW; exact hW)
  omega

theorem lg_no' {a a1 b q p : List Nat} {x i n : Nat} (hgu : Den PP 276 [u (a.getD (i + (n + 2)) 0), u (a.getD (i + (n + 1)) 0), u (a.getD (i + n) 0), u (b.getD (n + 1) 0), u (b.getD n 0)] [u (a.getD (i + (n + 2)) 0), u (a.getD (i + (n + 1)) 0), u (a.getD (i + n) 0), u (b.getD (n + 1) 0), u (b.getD n 0)] (u x))
    (htk : Den PP 277 [WO a, num .i64 (i : Int), W b, u x] [WO a1, num .i64 (i : Int), W b, u x] (bl false)) (hn : b.length = n + 2) (hm : i + (n + 2) < a.length) (hm2 : a.length ≤ 2147483648) (hq : i < q.length) (hs : q.set i x = p) :
    Goes E247 L247a (sLg a b q (((i + 1 : Nat) : Int) - 1)) .normal (sLg a1 b p ((i : Int) - 1)) := by
  have ei : ((i + 1 : Nat) : Int) - 1 = ((i : Nat) : Int) := by omega
  rw [ei]
  have e0 : Int.toNat (((i : Nat) : Int) + ((b.length : Nat) : Int)) = i + (n + 2) := by omega
  have e1 : Int.toNat (((i : Nat) : Int) + ((b.length : Nat) : Int) - (1:Int)) = i + (n + 1) := by omega
  have e2 : Int.toNat (((i : Nat) : Int) + ((b.length : Nat) : Int) - (2:Int)) = i + n := by omega
  have e3 : Int.toNat (((b.length : Nat) : Int) - (1:Int)) = n + 1 := by omega
  have e4 : Int.toNat (((b.length : Nat) : Int) - (2:Int)) = n := by omega
  exact lg_no hgu htk (decide_eq_true (by omega)) (i64_ok (by omega) (by omega)) ⟨by omega, by omega⟩ (i64_ok (by omega) (by omega)) ⟨by omega, by omega⟩ (i64_ok (by omega) (by omega)) ⟨by omega, by omega⟩ (i64_ok (by omega) (by omega)) ⟨by omega, by omega⟩ (i64_ok (by omega) (by omega)) ⟨by omega, by omega⟩
    (by rw [e0]) (by rw [e1]) (by rw [e2]) (by rw [e3]) (by rw [e4]) ⟨by omega, by omega⟩ (i64_ok (by omega) (by omega)) (FEqset _ _ _ hq hs) rfl
theorem lg_yes' {a a1 a2 b q p : List Nat} {x i n : Nat} (hgu : Den PP 276 [u (a.getD (i + (n + 2)) 0), u (a.getD (i + (n + 1)) 0), u (a.getD (i + n) 0), u (b.getD (n + 1) 0), u (b.getD n 0)] [u (a.getD (i + (n + 2)) 0), u (a.getD (i + (n + 1)) 0), u (a.getD (i + n) 0), u (b.getD (n + 1) 0), u (b.getD n 0)] (u x))
    (htk : Den PP 277 [WO a, num .i64 (i : Int), W b, u x] [WO a1, num .i64 (i : Int), W b, u x] (bl true)) (hgv : Den PP 278 [WO a1, num .i64 (i : Int), W b] [WO a2, num .i64 (i : Int), W b] (.tup [])) (hx : 1 ≤ x) (hx2 : x < 4294967296)
    (hn : b.length = n + 2) (hm : i + (n + 2) < a.length) (hm2 : a.length ≤ 2147483648) (hq : i < q.length) (hs : q.set i (x - 1) = p) :
    Goes E247 L247a (sLg a b q (((i + 1 : Nat) : Int) - 1)) .normal (sLg a2 b p ((i : Int) - 1)) := by
  have ei : ((i + 1 : Nat) : Int) - 1 = ((i : Nat) : Int) := by omega
  rw [ei]
  have e0 : Int.toNat (((i : Nat) : Int) + ((b.length : Nat) : Int)) = i + (n + 2) := by omega
  have e1 : Int.toNat (((i : Nat) : Int) + ((b.length : Nat) : Int) - (1:Int)) = i + (n + 1) := by omega
  have e2 : Int.toNat (((i : Nat) : Int) + ((b.length : Nat) : Int) - (2:Int)) = i + n := by omega
  have e3 : Int.toNat (((b.length : Nat) : Int) - (1:Int)) = n + 1 := by omega
  have e4 : Int.toNat (((b.length : Nat) : Int) - (2:Int)) = n := by omega
  exact lg_yes (y := x - 1) hgu htk hgv (decide_eq_true (by omega)) (i64_ok (by omega) (by omega)) ⟨by omega, by omega⟩ (i64_ok (by omega) (by omega)) ⟨by omega, by omega⟩ (i64_ok (by omega) (by omega)) ⟨by omega, by omega⟩ (i64_ok (by omega) (by omega)) ⟨by omega, by omega⟩ (i64_ok (by omega) (by omega)) ⟨by omega, by omega⟩
    (by rw [e0]) (by rw [e1]) (by rw [e2]) (by rw [e3]) (by rw [e4]) (by rw [wr32]; omega) ⟨by omega, by omega⟩ (i64_ok (by omega) (by omega)) (FEqset _ _ _ hq hs) rfl
theorem lg_split {m n i R D : Nat} (hm : i + (n + 1) ≤ m) (hR : R < 4294967296 ^ (i + 1) * D) (hD : D < 4294967296 ^ n) : digs m R = digs i R ++ digs (n + 1) (R / 4294967296 ^ i) ++ digs (m - (i + (n + 1))) 0 := by
  have h0 : R / 4294967296 ^ (i + (n + 1)) = 0 := by
    refine Nat.div_eq_of_lt (Nat.lt_of_lt_of_le hR ?_)
    rw [show i + (n + 1) = (i + 1) + n by omega, Nat.pow_add _ (i + 1)]
    exact Nat.mul_le_mul_left _ (Nat.le_of_lt hD)
  rw [← h0, ← digs_append, ← digs_append, show i + (n + 1) + (m - (i + (n + 1))) = m by omega]
theorem lg_join {m n i R D : Nat} (hm : i + (n + 1) ≤ m) (hD : D < 4294967296 ^ n) (hD0 : 0 < D) : digs i R ++ digs (n + 1) (R / 4294967296 ^ i % D) ++ digs (m - (i + (n + 1))) 0 = digs m (R % (4294967296 ^ i * D)) := by
  have hlt : R % (4294967296 ^ i * D) < 4294967296 ^ (i + 1) * D := by
    refine Nat.lt_of_lt_of_le (Nat.mod_lt _ (Nat.mul_pos (Bpos i) hD0)) ?_
    exact Nat.mul_le_mul_right _ (Nat.pow_le_pow_right (by omega) (by omega))
  rw [lg_split hm hlt hD, Nat.mod_mul_right_div_self]
  congr 2
  rw [← digs_mod i (R % _), Nat.mod_mod_of_dvd _ (Nat.dvd_mul_right _ _), digs_mod]
theorem lg_q (V i D : Nat) : V / (4294967296 ^ i * D) = V % (4294967296 ^ (i + 1) * D) / 4294967296 ^ i / D + 4294967296 * (V / (4294967296 ^ (i + 1) * D)) := by
  rw [Nat.div_div_eq_div_mul, show 4294967296 ^ (i + 1) * D = 4294967296 ^ i * D * 4294967296 by rw [Nat.pow_succ, Nat.mul_assoc, Nat.mul_comm 4294967296, ← Nat.mul_assoc], Nat.mod_mul_right_div_self, ← Nat.div_div_eq_div_mul V (4294967296 ^ i * D) 4294967296]
  generalize V / (4294967296 ^ i * D) = x
  omega
theorem lg_r (V i D : Nat) : V % (4294967296 ^ (i + 1) * D) % (4294967296 ^ i * D) = V % (4294967296 ^ i * D) := by
  refine Nat.mod_mod_of_dvd _ ?_
  rw [Nat.pow_succ, Nat.mul_assoc]
  exact Nat.mul_dvd_mul_left _ (Nat.dvd_mul_left _ _)
/-- the window: what the guess is of it -/
theorem lg_guess {W D n : Nat} (hD : D < 4294967296 ^ (n + 2)) (hD2 : 4294967296 ^ (n + 1) ≤ D) (hW : W < 4294967296 * D) :
    ∃ x, x < 4294967296 ∧ (x * D ≤ W → W / D = x) ∧ (W < x * D → 1 ≤ x ∧ W / D = x - 1) ∧
    Den PP 276 [u (W / 4294967296 ^ (n + 2) % 4294967296), u (W / 4294967296 ^ (n + 1) % 4294967296), u (W / 4294967296 ^ n % 4294967296), u (D / 4294967296 ^ (n + 1) % 4294967296), u (D / 4294967296 ^ n % 4294967296)]
      [u (W / 4294967296 ^ (n + 2) % 4294967296), u (W / 4294967296 ^ (n + 1) % 4294967296), u (W / 4294967296 ^ n % 4294967296), u (D / 4294967296 ^ (n + 1) % 4294967296), u (D / 4294967296 ^ n % 4294967296)] (u x) := by
  obtain ⟨k1, k2⟩ := lg_math (W := W) (D := D) (n := n + 2) (by omega) hD hD2 hW
  have hW3 : W < 4294967296 ^ (n + 3) := by
    refine Nat.lt_trans hW ?_
    rw [show n + 3 = (n + 2) + 1 by omega, Bsucc]
    exact (Nat.mul_lt_mul_left (by omega)).2 hD
  have w3 := win3 W n hW3
  have w2 := win2 D n hD
  have ht := top_le (n := n + 2) (by omega) hW
  rw [show n + 2 - 2 = n by omega] at k1 k2
  rw [show n + 2 - 1 = n + 1 by omega] at ht
  have hd1 : D / 4294967296 ^ (n + 1) < 4294967296 := by
    rw [Nat.div_lt_iff_lt_mul (Bpos _), ← Bsucc]; exact hD
  have hd1p : 0 < D / 4294967296 ^ (n + 1) := Nat.div_pos hD2 (Bpos _)
  have hgu := quot_guess (W / 4294967296 ^ (n + 2) % 4294967296) (W / 4294967296 ^ (n + 1) % 4294967296) (W / 4294967296 ^ n % 4294967296) (D / 4294967296 ^ (n + 1) % 4294967296) (D / 4294967296 ^ n % 4294967296)
    (by rw [Nat.mod_eq_of_lt hd1]; exact Nat.le_trans (Nat.mod_le _ _) ht) (Nat.mod_lt _ (by omega)) (Nat.mod_lt _ (by omega)) (Nat.mod_lt _ (by omega)) (Nat.mod_lt _ (by omega)) (by rw [Nat.mod_eq_of_lt hd1]; exact hd1p)
  rw [w3, w2] at hgu
  have hx : gs (W / 4294967296 ^ n) (D / 4294967296 ^ n) < 4294967296 := by
    have : gs (W / 4294967296 ^ n) (D / 4294967296 ^ n) ≤ 4294967295 := Nat.min_le_left _ _
    omega
  exact ⟨_, hx, k1, k2, hgu⟩
theorem dig_shift (k r P : Nat) (h : P = 4294967296 ^ k) : digs k (r + P * 1) = digs k r := by
  subst h; rw [← digs_mod k (r + _), Nat.add_mul_mod_self_left, digs_mod]
theorem lg_step (b q : List Nat) (R m n i D : Nat) (hb : Wd b) (hbD : val b = D) (hn : b.length = n + 2) (hD : D < 4294967296 ^ (n + 2)) (hD2 : 4294967296 ^ (n + 1) ≤ D) (hm : m ≤ 2147483648) (hk : i + 1 + (n + 2) ≤ m) (hR : R < 4294967296 ^ (i + 1) * D) (hq : i < q.length) :
    Goes E247 L247a (sLg (digs m R) b q (((i + 1 : Nat) : Int) - 1)) .normal (sLg (digs m (R % (4294967296 ^ i * D))) b (q.set i (R / 4294967296 ^ i / D)) ((i : Int) - 1)) := by
  have hD0 : 0 < D := Nat.lt_of_lt_of_le (Bpos _) hD2
  have hW : R / 4294967296 ^ i < 4294967296 * D := by
    rw [Nat.div_lt_iff_lt_mul (Bpos i), Nat.mul_assoc, Nat.mul_comm D, ← Nat.mul_assoc, ← Bsucc]; exact hR
  have hsp := lg_split (m := m) (n := n + 2) (i := i) (by omega) hR hD
  have hjo := lg_join (m := m) (n := n + 2) (i := i) (R := R) (by omega) hD hD0
  have hbd := digs_val hb
  rw [hn, hbD] at hbd
  have hgd : ∀ j, j ≤ n + 2 → (digs m R).getD (i + j) 0 = R / 4294967296 ^ i / 4294967296 ^ j % 4294967296 := by
    intro j hj
    rw [getD_digs _ _ _ (by omega), Nat.div_div_eq_div_mul, ← Nat.pow_add]
  have hbg : ∀ j, j < n + 2 → b.getD j 0 = D / 4294967296 ^ j % 4294967296 := by
    intro j hj
    rw [← hbd, getD_digs _ _ _ (by omega)]
  obtain ⟨x, hx, k1, k2, hgu⟩ := lg_guess hD hD2 hW
  rw [← hgd (n + 2) (by omega), ← hgd (n + 1) (by omega), ← hgd n (by omega), ← hbg (n + 1) (by omega), ← hbg n (by omega)] at hgu
  generalize hWe : R / 4294967296 ^ i = W at *
  have hW3 : W < 4294967296 ^ (n + 2 + 1) := by
    refine Nat.lt_trans hW ?_
    rw [Bsucc]
    exact (Nat.mul_lt_mul_left (by omega)).2 hD
  have htk := quot_take (digs i R) (digs (n + 2 + 1) W) (digs (m - (i + (n + 2 + 1))) 0) b x hb (digs_Wd _ _) hx (by rw [digs_len, hn]) (by simp only [List.length_append, digs_len]; omega)
  rw [← hsp, digs_len, hn, val_digs_lt hW3, hbD] at htk
  have hma : (digs m R).length = m := digs_len _ _
  have hdm := Nat.div_add_mod' W D
  generalize hPe : 4294967296 ^ (n + 2 + 1) = P at *
  have hDP : D ≤ P := by rw [← hPe]; exact Nat.le_trans (Nat.le_of_lt hD) (Nat.pow_le_pow_right (by omega) (by omega))
  by_cases hbo : W < x * D
  · obtain ⟨x1, x2⟩ := k2 hbo
    rw [x2, Nat.sub_mul, Nat.one_mul] at hdm
    rw [decide_eq_true hbo] at htk
    have hgv := quot_give (digs i R) (digs (n + 2 + 1) (P + W - x * D)) (digs (m - (i + (n + 2 + 1))) 0) b hb (digs_Wd _ _) (by rw [digs_len, hn]) (by simp only [List.length_append, digs_len]; omega)
    have hxD : D ≤ x * D := Nat.le_mul_of_pos_left _ x1
    rw [digs_len, hn, val_digs_lt (by rw [hPe]; omega), hbD, show P + W - x * D + D = W % D + P * 1 by omega, dig_shift _ _ _ hPe.symm, hjo] at hgv
    rw [x2]
    exact lg_yes' hgu htk hgv x1 hx hn (by omega) (by omega) hq rfl
  · have hxe := k1 (by omega)
    rw [hxe] at hdm ⊢
    rw [decide_eq_false hbo, show P + W - x * D = W % D + P * 1 by omega, dig_shift _ _ _ hPe.symm, hjo] at htk
    exact lg_no' hgu htk hn (by omega) (by omega) hq rfl
theorem lg_loop (b : List Nat) (V m n D : Nat) (hb : Wd b) (hbD : val b = D) (hn : b.length = n + 2) (hD : D < 4294967296 ^ (n + 2)) (hD2 : 4294967296 ^ (n + 1) ≤ D) (hm : m ≤ 2147483648) (hmn : n + 2 ≤ m) : ∀ k, k + (n + 2) ≤ m →
    Loops E247 L247a (sLg (digs m (V % (4294967296 ^ k * D))) b (List.replicate k 0 ++ digs (m - (n + 2) - k) (V / (4294967296 ^ k * D))) ((k : Int) - 1)) (.exit 0) (sLg (digs m (V % D)) b (digs (m - (n + 2)) (V / D)) (-1))
  | 0, hk => by
    rw [Nat.pow_zero, Nat.one_mul]
    exact .leave (lg_out (decide_eq_false (by omega))) (fun h => by cases h)
  | i + 1, hk => by
    have ih := lg_loop b V m n D hb hbD hn hD hD2 hm hmn i (by omega)
    have hD0 : 0 < D := Nat.lt_of_lt_of_le (Bpos _) hD2
    have hs := lg_step b (List.replicate (i + 1) 0 ++ digs (m - (n + 2) - (i + 1)) (V / (4294967296 ^ (i + 1) * D))) (V % (4294967296 ^ (i + 1) * D)) m n i D hb hbD hn hD hD2 hm hk (Nat.mod_lt _ (Nat.mul_pos (Bpos _) hD0)) (by simp only [List.length_append, List.length_replicate, digs_len]; omega)
    have hv : V % (4294967296 ^ (i + 1) * D) / 4294967296 ^ i / D < 4294967296 := by
      rw [Nat.div_lt_iff_lt_mul hD0, Nat.div_lt_iff_lt_mul (Bpos i), Nat.mul_assoc, Nat.mul_comm D, ← Nat.mul_assoc, ← Bsucc]
      exact Nat.mod_lt _ (Nat.mul_pos (Bpos _) hD0)
    rw [set_zeros, lg_r, ← digs_cons _ _ _ hv, ← lg_q, show m - (n + 2) - (i + 1) + 1 = m - (n + 2) - i by omega] at hs
    exact .again hs ih
theorem quot_long (b : List Nat) (V m n : Nat) (hb : Wd b) (hn : b.length = n + 2) (hD2 : 4294967296 ^ (n + 1) ≤ val b) (hm : m ≤ 2147483648) (hmn : n + 2 ≤ m) (hV : V < 4294967296 ^ (m - (n + 2)) * val b) :
    Den PP 247 [WO (digs m V), W b] [WO (digs m (V % val b)), W b] (WO (digs (m - (n + 2)) (V / val b))) := by
  refine D247 (gout := [(0, WO (digs m (V % val b))), (4, .ref ⟨6, 0, none⟩), (6, WO (digs (m - (n + 2)) (V / val b)))]) (e := .ret) ?_ (.inr rfl) (by kernel_rfl) (by kernel_rfl)
  have hD := val_lt hb
  rw [hn] at hD
  have hl := lg_loop b V m n (val b) hb rfl hn hD hD2 hm hmn (m - (n + 2)) (by omega)
  rw [Nat.mod_eq_of_lt hV, Nat.sub_self, digs, List.append_nil] at hl
  have hma : (digs m V).length = m := digs_len _ _
  refine lg_all hl ?_ ?_ ?_ ?_ ?_
  all_goals first
    | exact i64_ok (by omega) (by omega)
    | exact ⟨rfl, by omega, by omega, by omega⟩
    | exact fresh_zeros (by omega)
    | omega
end Go.X
namespace Go.X
open Go Go.Proofs
noncomputable def B204 : Code := codeOf Tryz.f204
noncomputable def E204 : Env := EV PP 65 []
theorem D204 {args outs : List S} {gout : List (Nat × S)} {e : Fin} {res : S} (hg : Goes E204 B204 (entry 0 args) e gout) (he : e = .normal ∨ e = .ret) (hle : Nat.ble args.length 65 = true)
    (hfin : finE (tabOf PP) gout Tryz.f204.results.toList args [] = some (outs, res)) : Den PP 204 args outs res :=
  den_tab (fn := Tryz.f204) (c := B204) (by kernel_rfl) (by kernel_rfl) (by kernel_rfl) (by kernel_rfl) hle hfin hg he
theorem qd_small {a b x r : List Nat} {q : Int} 
    (h1 : Den PP 168 [(W b)] [(W b)] (W x))
    (h2 : Den PP 135 [(W a), (W x)] [(W a), (W x)] (num .i64 q))
    (h3 : Den PP 168 [(W a)] [(W a)] (W r))
    (h4 : ((x.length : Int) == (0:Int)) = false)
    (h5 : (decide (q < (0:Int))) = true)
    (h6 : ([] : List Nat).length = 0) :
    Goes E204 B204 [(0, (W a)), (1, (W b))] .ret [(4, (W ([] : List Nat))), (5, (W r)), (6, (bl true))] :=
  pathG [.r [] [0, 1, 4, 5, 6], .r [.c [(W b)] [(W b)] (W x)] [0, 1, 4, 5, 6], .r [] [0, 1, 4, 5, 6, 14], .t false, .r [.c [(W a), (W x)] [(W a), (W x)] (num .i64 q)] [0, 1, 4, 5, 6, 14, 18], .t true, .r [.c [(W a)] [(W a)] (W r)] [0, 1, 4, 5, 6, 14, 18]] ((cc (fq b.length 1 (wf b)) (cc h1 (cc h4 (cc (fq a.length 1 (wf a)) (cc (fq x.length 1 (wf x)) (cc h2 (cc h5 (cc (fq a.length 1 (wf a)) (cc h3 (cc h6 (cc (fq r.length 1 (wf r)) (cc (er true) nn))))))))))))) (by kernel_rfl)
theorem qd_word {a b x r qs : List Nat} {q : Int} {y z : Nat}
    (h1 : Den PP 168 [(W b)] [(W b)] (W x))
    (h2 : Den PP 135 [(W a), (W x)] [(W a), (W x)] (num .i64 q))
    (h3 : Den PP 183 [(W a), (u y)] [(W a), (u y)] (.tup [wc qs, uc z, bc true]))
    (h4 : Den PP 77 [(num .u64 ((z : Nat) : Int))] [(num .u64 ((z : Nat) : Int))] (W r))
    (h5 : ((x.length : Int) == (0:Int)) = false)
    (h6 : (decide (q < (0:Int))) = false)
    (h7 : ((x.length : Int) == (1:Int)) = true)
    (h8 : idx x.length (0:Int))
    (h9 : (x.getD (Int.toNat (0:Int)) 0 : Int) = ((y : Nat) : Int))
    (h10 : (wr .u64 ((z : Nat) : Int)) = ((z : Nat) : Int)) :
    Goes E204 B204 [(0, (W a)), (1, (W b))] .ret [(4, (W qs)), (5, (W r)), (6, (bl true))] :=
  pathG [.r [] [0, 1, 4, 5, 6], .r [.c [(W b)] [(W b)] (W x)] [0, 1, 4, 5, 6], .r [] [0, 1, 4, 5, 6, 14], .t false, .r [.c [(W a), (W x)] [(W a), (W x)] (num .i64 q)] [0, 1, 4, 5, 6, 14, 18], .t false, .r [] [0, 1, 4, 5, 6, 14, 18, 25], .t true, .r [.c [(W a), (u y)] [(W a), (u y)] (.tup [wc qs, uc z, bc true])] [0, 1, 4, 5, 6, 7, 8, 14, 18, 25], .r [.c [(num .u64 ((z : Nat) : Int))] [(num .u64 ((z : Nat) : Int))] (W r)] [0, 1, 4, 5, 6, 7, 8, 14, 18, 25]] ((cc (fq b.length 1 (wf b)) (cc h1 (cc h5 (cc (fq a.length 1 (wf a)) (cc (fq x.length 1 (wf x)) (cc h2 (cc h6 (cc h7 (cc h8 (cc (fq a.length 1 (wf a)) (cc h9 (cc h3 (cc tt (cc h10 (cc h4 (cc (fq qs.length 1 (wf qs)) (cc (fq r.length 1 (wf r)) (cc (er true) nn))))))))))))))))))) (by kernel_rfl)
theorem qd_long {a b x r l l2 l3 d qs q1 : List Nat} {q : Int} {y w s : Nat}
    (h1 : Den PP 168 [(W b)] [(W b)] (W x))
    (h2 : Den PP 135 [(W a), (W x)] [(W a), (W x)] (num .i64 q))
    (h3 : Den PP 245 [(u y)] [(u y)] (num .i64 ((w : Nat) : Int)))
    (h4 : Den PP 246 [(W a), (num .i64 ((s : Nat) : Int))] [(W a), (num .i64 ((s : Nat) : Int))] (WO l))
    (h5 : Den PP 246 [(W x), (num .i64 ((s : Nat) : Int))] [(W x), (num .i64 ((s : Nat) : Int))] (W d))
    (h6 : Den PP 247 [(WO l2), (W d)] [(WO l3), (W d)] (WO q1))
    (h7 : Den PP 168 [(W q1)] [(W q1)] (W qs))
    (h8 : Den PP 248 [(W l3), (num .i64 ((s : Nat) : Int))] [(W l3), (num .i64 ((s : Nat) : Int))] (W r))
    (h9 : ((x.length : Int) == (0:Int)) = false)
    (h10 : (decide (q < (0:Int))) = false)
    (h11 : ((x.length : Int) == (1:Int)) = false)
    (h12 : inR .i64 ((x.length : Int) - (1:Int)))
    (h13 : idx x.length ((x.length : Int) - (1:Int)))
    (h14 : (x.getD (Int.toNat ((x.length : Int) - (1:Int))) 0 : Int) = ((y : Nat) : Int))
    (h15 : inR .i64 ((32:Int) - ((w : Nat) : Int)))
    (h16 : ((32:Int) - ((w : Nat) : Int)) = ((s : Nat) : Int))
    (h17 : room (l.length + 1) 4)
    (h18 : (l.length + 1) = l2.length ∧ FEq (l.length + 1) 1 (appF l.length (wf l) (rowF 1 [(.d (.v (.int .u32 (0:Int))))])) (wf l2)) :
    Goes E204 B204 [(0, (W a)), (1, (W b))] .ret [(4, (W qs)), (5, (W r)), (6, (bl true))] :=
  pathG [.r [] [0, 1, 4, 5, 6], .r [.c [(W b)] [(W b)] (W x)] [0, 1, 4, 5, 6], .r [] [0, 1, 4, 5, 6, 14], .t false, .r [.c [(W a), (W x)] [(W a), (W x)] (num .i64 q)] [0, 1, 4, 5, 6, 14, 18], .t false, .r [] [0, 1, 4, 5, 6, 14, 18, 25], .t false, .r [.c [(u y)] [(u y)] (num .i64 ((w : Nat) : Int))] [0, 1, 4, 5, 6, 10, 14, 18, 25], .u [(0, (W a)), (1, (W x)), (4, (.one false [(.app 0 0 (fun _ _ => .v undef))])), (5, (.one false [(.app 0 0 (fun _ _ => .v undef))])), (6, (.one false [(.d (.v (.bool false)))])), (10, (num .i64 ((s : Nat) : Int))), (14, (.one false [(.d (.v (.bool ((x.length : Int) == (0:Int)))))])), (18, (.one false [(.d (.v (.bool (decide (q < (0:Int))))))])), (25, (.one false [(.d (.v (.bool ((x.length : Int) == (1:Int)))))]))], .r [.c [(W a), (num .i64 ((s : Nat) : Int))] [(W a), (num .i64 ((s : Nat) : Int))] (WO l)] [0, 1, 4, 5, 6, 10, 11, 14, 18, 25], .r [.c [(W x), (num .i64 ((s : Nat) : Int))] [(W x), (num .i64 ((s : Nat) : Int))] (W d), .c [(WO l2), (W d)] [(WO l3), (W d)] (WO q1)] [0, 1, 4, 5, 6, 10, 11, 14, 18, 25], .f 4, .f 11, .r [.c [(W q1)] [(W q1)] (W qs), .c [(W l3), (num .i64 ((s : Nat) : Int))] [(W l3), (num .i64 ((s : Nat) : Int))] (W r)] [0, 1, 4, 5, 6, 10, 11, 14, 18, 25]] ((cc (fq b.length 1 (wf b)) (cc h1 (cc h9 (cc (fq a.length 1 (wf a)) (cc (fq x.length 1 (wf x)) (cc h2 (cc h10 (cc h11 (cc h12 (cc h13 (cc h14 (cc h3 (cc h15 (cc (fq a.length 1 (wf a)) (cc (fq x.length 1 (wf x)) (cc (er 0) (cc (er 0) (cc (er false) (cc h16 (cc (er ((x.length : Int) == (0:Int))) (cc (er (decide (q < (0:Int)))) (cc (er ((x.length : Int) == (1:Int))) (cc (fq a.length 1 (wf a)) (cc (er ((s : Nat) : Int)) (cc h4 (cc h17 (cc (fq x.length 1 (wf x)) (cc (er ((s : Nat) : Int)) (cc h5 (cc h18 (cc (fq d.length 1 (wf d)) (cc h6 (cc (fq q1.length 1 (wf q1)) (cc h7 (cc (fq l3.length 1 (wf l3)) (cc (er ((s : Nat) : Int)) (cc h8 (cc (fq qs.length 1 (wf qs)) (cc (fq r.length 1 (wf r)) (cc (er true) nn))))))))))))))))))))))))))))))))))))))))) (by kernel_rfl)
theorem qd_zero {a b x : List Nat}  
    (h1 : Den PP 168 [(W b)] [(W b)] (W x))
    (h2 : ((x.length : Int) == (0:Int)) = true)
    (h3 : ([] : List Nat).length = 0) :
    Goes E204 B204 [(0, (W a)), (1, (W b))] .ret [(4, (W ([] : List Nat))), (5, (W ([] : List Nat))), (6, (bl false))] :=
  pathG [.r [] [0, 1, 4, 5, 6], .r [.c [(W b)] [(W b)] (W x)] [0, 1, 4, 5, 6], .r [] [0, 1, 4, 5, 6, 14], .t true, .r [] [0, 1, 4, 5, 6, 14]] ((cc (fq b.length 1 (wf b)) (cc h1 (cc h2 (cc h3 (cc h3 (cc (er false) nn))))))) (by kernel_rfl)

theorem app_zero (l : List Nat) : (l.length + 1) = (l ++ [0]).length ∧ FEq (l.length + 1) 1 (appF l.length (wf l) (rowF 1 [(.d (.v (.int .u32 (0:Int))))])) (wf (l ++ [0])) := by
  refine ⟨by simp, FEq.words fun j hj => ?_⟩
  by_cases h : j < l.length
  · have hb : Nat.blt j l.length = true := by simpa [Nat.blt_eq] using h
    simp only [appF, hb, cond_true, wf]
    rw [getD_left _ _ _ h]
  · have hb : Nat.blt j l.length = false := by
      rw [Bool.eq_false_iff]; simpa [Nat.blt_eq] using h
    have hj : j = l.length := by omega
    subst hj
    simp only [appF, hb, cond_false, Nat.sub_self]
    rw [getD_right _ _ _ (Nat.le_refl _), Nat.sub_self]
    rfl
theorem nb_le32 {x : Nat} (h : x < 4294967296) : nb x ≤ 32 := nb_le h
theorem wd_pos_len {n : Nat} (h : n ≠ 0) : 0 < (wd n).length := by
  rcases Nat.eq_zero_or_pos (wd n).length with h0 | h0
  · exact absurd (wd_nil.1 (List.eq_nil_of_length_eq_zero h0)) h
  · exact h0
theorem wd_one {n : Nat} (h : (wd n).length = 1) : (wd n).getD 0 0 = n := by
  have h1 := wd_len_lt n
  rw [h] at h1
  have := digs_val (wd_Wd n)
  rw [val_wd, h] at this
  rw [← this, getD_digs _ _ _ (by omega)]
  simp; omega
theorem wd_app0 (n : Nat) : wd n ++ [0] = digs ((wd n).length + 1) n := by
  have h := wd_len_lt n
  have h2 := digs_val (wd_Wd n)
  rw [val_wd] at h2
  rw [digs_succ, h2, Nat.div_eq_of_lt h]
theorem wd_two {n : Nat} (h : 4294967296 ≤ n) : 2 ≤ (wd n).length := by
  rcases Nat.lt_or_ge (wd n).length 2 with h1 | h1
  · have h2 := wd_len_lt n
    have : 4294967296 ^ (wd n).length ≤ 4294967296 ^ 1 := Nat.pow_le_pow_right (by omega) (by omega)
    omega
  · exact h1
theorem wd_mono {m n : Nat} (h : m ≤ n) : (wd m).length ≤ (wd n).length := wd_len_le (Nat.lt_of_le_of_lt h (wd_len_lt n))
theorem wd_len_of {l : List Nat} (h : Wd l) : (wd (val l)).length ≤ l.length := wd_len_le (val_lt h)
theorem wd_shift_len (n s : Nat) (hs : s ≤ 32) : (wd (2 ^ s * n)).length ≤ (wd n).length + 1 := by
  refine wd_len_le ?_
  have h1 := wd_len_lt n
  have h2 : 2 ^ s ≤ 4294967296 := Nat.pow_le_pow_right (n := 2) (by omega) hs
  rw [Bsucc]
  exact Nat.mul_lt_mul_of_le_of_lt h2 h1 (by omega)
theorem quot_div (a b : List Nat) (ha : Wd a) (hb : Wd b) (la : a.length ≤ 536870912) (lb : b.length ≤ 536870912) (h0 : val b ≠ 0) :
    Den PP 204 [W a, W b] [W a, W b] (.tup [wc (wd (val a / val b)), wc (wd (val a % val b)), bc true]) := by
  refine D204 (gout := [(4, W (wd (val a / val b))), (5, W (wd (val a % val b))), (6, bl true)]) (e := .ret) ?_ (.inr rfl) (by kernel_rfl) (by kernel_rfl)
  have hn := (nat_norm b (by omega)).plain
  rw [trimL_eq hb] at hn
  have lx := wd_len_of hb
  have hl0 := wd_pos_len h0
  have hc := nat_cmp a (wd (val b)) ha (wd_Wd _) (by omega) (by omega)
  rw [val_wd] at hc
  have hne : (((wd (val b)).length : Int) == (0:Int)) = false := by rw [beq_eq_false_iff_ne]; omega
  by_cases hlt : val a < val b
  · have hna := (nat_norm a (by omega)).plain
    rw [trimL_eq ha] at hna
    rw [Nat.div_eq_of_lt hlt, Nat.mod_eq_of_lt hlt, wd_zero]
    exact qd_small hn hc hna hne (decide_eq_true (cmp3_lt.2 hlt)) rfl
  have hcd : (decide (cmp3 (val a) (val b) < (0:Int))) = false := decide_eq_false (fun h => hlt (cmp3_lt.1 h))
  by_cases h1 : (wd (val b)).length = 1
  · have hw1 := wd_one h1
    have hblt : val b < 4294967296 := by have := wd_len_lt (val b); rw [h1] at this; omega
    have hq := quot_word a (val b) ha (by omega) (by omega) hblt
    have hmod := Nat.mod_lt (val a) (show 0 < val b by omega)
    have ho := nat_of (val a % val b) (by omega)
    have hov : trimL [val a % val b % 4294967296, val a % val b / 4294967296] = wd (val a % val b) := by
      have : [val a % val b % 4294967296, val a % val b / 4294967296] = digs 2 (val a % val b) := by
        simp only [digs]; rw [Nat.mod_eq_of_lt (a := val a % val b / 4294967296) (by omega)]
      rw [this, trim_digs_lt (by omega)]
    rw [hov] at ho
    refine qd_word (y := val b) (z := val a % val b) hn hc hq ho hne hcd ?_ ?_ ?_ ?_
    all_goals first
      | exact ⟨by omega, by omega⟩
      | (rw [h1]; rfl)
      | (show (((wd (val b)).getD 0 0 : Nat) : Int) = _; rw [hw1])
      | (rw [wr64]; omega)
  · have hbig : 4294967296 ≤ val b := by
      rcases Nat.lt_or_ge (val b) 4294967296 with h | h
      · have : (wd (val b)).length ≤ 1 := wd_len_le (by simpa using h)
        omega
      · exact h
    obtain ⟨t1, t2⟩ := nb_top h0
    have hy := (wd_Wd (val b)).getD ((wd (val b)).length - 1)
    have hlen := limb_len _ hy
    have hnb := nb_le32 hy
    generalize nb ((wd (val b)).getD ((wd (val b)).length - 1) 0) = w at *
    have hua := twos_up a (32 - w) ha (by omega) (by omega)
    have hub := (twos_up (wd (val b)) (32 - w) (wd_Wd _) (by omega) (by omega)).plain
    rw [val_wd] at hub
    have hp : 0 < 2 ^ (32 - w) := Nat.pow_pos (by omega)
    have hp1 : 1 ≤ 2 ^ (32 - w) := hp
    have hge : val b ≤ 2 ^ (32 - w) * val b := Nat.le_mul_of_pos_left _ hp
    have hdl := wd_two (Nat.le_trans hbig hge)
    have hab : 2 ^ (32 - w) * val b ≤ 2 ^ (32 - w) * val a := Nat.mul_le_mul_left _ (by omega)
    have hmn := wd_mono hab
    have hsa := wd_shift_len (val a) (32 - w) (by omega)
    have hla := wd_len_of ha
    have hD2 := wd_len_ge (n := 2 ^ (32 - w) * val b) (by omega)
    have hV := wd_len_lt (2 ^ (32 - w) * val a)
    generalize hLa : (wd (2 ^ (32 - w) * val a)).length = La at *
    obtain ⟨n, hnn⟩ : ∃ n, (wd (2 ^ (32 - w) * val b)).length = n + 2 := ⟨(wd (2 ^ (32 - w) * val b)).length - 2, by omega⟩
    rw [hnn] at hD2 hmn
    rw [show n + 2 - 1 = n + 1 by omega] at hD2
    have hlg := quot_long (wd (2 ^ (32 - w) * val b)) (2 ^ (32 - w) * val a) (La + 1) n (wd_Wd _) hnn (by rw [val_wd]; exact hD2) (by omega) (by omega) (by
      rw [val_wd]
      refine Nat.lt_of_lt_of_le hV ?_
      have : 4294967296 ^ La = 4294967296 ^ (La + 1 - (n + 2)) * 4294967296 ^ (n + 1) := by rw [← Nat.pow_add]; congr 1; omega
      rw [this]
      exact Nat.mul_le_mul_left _ hD2)
    rw [val_wd, Nat.mul_div_mul_left _ _ hp, Nat.mul_mod_mul_left] at hlg
    have hnq := (nat_norm (digs (La + 1 - (n + 2)) (val a / val b)) (by rw [digs_len]; omega)).plain
    have hqlt : val a / val b < 4294967296 ^ (La + 1 - (n + 2)) := by
      rw [Nat.div_lt_iff_lt_mul (by omega)]
      have e : 4294967296 ^ La = 4294967296 ^ (La + 1 - (n + 2)) * 4294967296 ^ (n + 1) := by rw [← Nat.pow_add]; congr 1; omega
      have h2 : 2 ^ (32 - w) * val a < 4294967296 ^ (La + 1 - (n + 2)) * (2 ^ (32 - w) * val b) := by
        refine Nat.lt_of_lt_of_le hV ?_
        rw [e]; exact Nat.mul_le_mul_left _ hD2
      rw [Nat.mul_left_comm] at h2
      exact Nat.lt_of_mul_lt_mul_left h2
    rw [trim_digs_lt hqlt] at hnq
    have hmlt := Nat.mod_lt (val a) (show 0 < val b by omega)
    have hrlt : 2 ^ (32 - w) * (val a % val b) < 4294967296 ^ (La + 1) := by
      refine Nat.lt_of_le_of_lt (Nat.mul_le_mul_left _ (show val a % val b ≤ val a by omega)) (Nat.lt_trans hV (Nat.pow_lt_pow_right (by omega) (by omega)))
    have hdn := twos_down (digs (La + 1) (2 ^ (32 - w) * (val a % val b))) (32 - w) (digs_Wd _ _) (by rw [digs_len]; omega) (by omega)
    rw [val_digs_lt hrlt, Nat.mul_div_cancel_left _ hp] at hdn
    have happ := app_zero (wd (2 ^ (32 - w) * val a))
    rw [wd_app0, hLa] at happ
    have e1 : Int.toNat (((wd (val b)).length : Int) - (1:Int)) = (wd (val b)).length - 1 := by omega
    refine qd_long (y := (wd (val b)).getD ((wd (val b)).length - 1) 0) (w := w) (s := 32 - w) hn hc hlen hua hub hlg hnq hdn hne hcd ?_ ?_ ?_ ?_ ?_ ?_ ?_ ?_
    all_goals first
      | exact i64_ok (by omega) (by omega)
      | exact ⟨by omega, by omega⟩
      | (rw [beq_eq_false_iff_ne]; omega)
      | (rw [e1])
      | omega
      | (rw [hLa]; exact happ)
      | skip
end Go.X
namespace Go.X
open Go Go.Proofs
noncomputable def B244 : Code := codeOf Tryz.f244
noncomputable def E244 : Env := EV PP 12 []
theorem D244 {args outs : List S} {gout : List (Nat × S)} {e : Fin} {res : S} (hg : Goes E244 B244 (entry 0 args) e gout) (he : e = .normal ∨ e = .ret) (hle : Nat.ble args.length 12 = true)
    (hfin : finE (tabOf PP) gout Tryz.f244.results.toList args [] = some (outs, res)) : Den PP 244 args outs res :=
  den_tab (fn := Tryz.f244) (c := B244) (by kernel_rfl) (by kernel_rfl) (by kernel_rfl) (by kernel_rfl) hle hfin hg he
noncomputable def L244a : Code := sub [true, false, false, false] B244
def sSm (x y : Nat) : List (Nat × S) := [(0, (num .u64 ((x : Nat) : Int))), (1, (num .u64 ((y : Nat) : Int)))]
theorem sm_in {x y z : Nat}
    (h1 : (((y : Nat) : Int) != (0:Int)) = true)
    (h2 : 0 ≤ ((x : Nat) : Int) ∧ 0 < ((y : Nat) : Int))
    (h3 : (((x : Nat) : Int) % ((y : Nat) : Int)) = ((z : Nat) : Int)) :
    Goes E244 L244a (sSm x y) .normal (sSm y z) :=
  pathG [.r [] [0, 1, 6], .t true, .r [] [0, 1, 6]] ((cc h1 (cc h2 (cc (er ((y : Nat) : Int)) (cc h3 nn))))) (by kernel_rfl)
theorem sm_out {x y : Nat}
    (h1 : (((y : Nat) : Int) != (0:Int)) = false) :
    Goes E244 L244a (sSm x y) (.exit 0) (sSm x y) :=
  pathG [.r [] [0, 1, 6], .t false] ((cc h1 (cc (er ((x : Nat) : Int)) (cc (er ((y : Nat) : Int)) nn)))) (by kernel_rfl)
theorem sm_all {x y z r : Nat}
    (h1 : Loops E244 L244a (sSm x y) (.exit 0) (sSm r z)) :
    Goes E244 B244 [(0, (num .u64 ((x : Nat) : Int))), (1, (num .u64 ((y : Nat) : Int)))] .ret [(4, (num .u64 ((r : Nat) : Int)))] :=
  pathG [.r [] [0, 1, 4], .l (sSm x y) (.exit 0) (sSm r z), .r [] [0, 1, 4]] ((cc (er ((x : Nat) : Int)) (cc (er ((y : Nat) : Int)) (cc h1 (cc (er ((r : Nat) : Int)) nn))))) (by kernel_rfl)

theorem gcd_step (x y : Nat) : Nat.gcd y (x % y) = Nat.gcd x y := by
  rw [Nat.gcd_comm x y, Nat.gcd_rec y x, Nat.gcd_comm]
theorem sm_loop (y : Nat) : ∀ x, Loops E244 L244a (sSm x y) (.exit 0) (sSm (Nat.gcd x y) 0) := by
  induction y using Nat.strongRecOn with
  | _ y ih =>
    intro x
    by_cases h : y = 0
    · subst h
      rw [Nat.gcd_zero_right]
      exact .leave (sm_out rfl) (fun h => by cases h)
    · have := ih (x % y) (Nat.mod_lt _ (by omega)) y
      rw [gcd_step] at this
      refine .again (sm_in (by simp; omega) ⟨by omega, by omega⟩ ?_) this
      omega
theorem common_small (x y : Nat) :
    Den PP 244 [num .u64 (x : Int), num .u64 (y : Int)] [num .u64 (x : Int), num .u64 (y : Int)] (num .u64 (Nat.gcd x y : Int)) := by
  refine D244 (gout := [(4, num .u64 (Nat.gcd x y : Int))]) (e := .ret) ?_ (by first | exact .inr rfl | exact .inl rfl) (by kernel_rfl) (by kernel_rfl)

  exact sm_all (sm_loop y x)
noncomputable def B203 : Code := codeOf Tryz.f203
noncomputable def E203 : Env := EV PP 12 []
theorem D203 {args outs : List S} {gout : List (Nat × S)} {e : Fin} {res : S} (hg : Goes E203 B203 (entry 0 args) e gout) (he : e = .normal ∨ e = .ret) (hle : Nat.ble args.length 12 = true)
    (hfin : finE (tabOf PP) gout Tryz.f203.results.toList args [] = some (outs, res)) : Den PP 203 args outs res :=
  den_tab (fn := Tryz.f203) (c := B203) (by kernel_rfl) (by kernel_rfl) (by kernel_rfl) (by kernel_rfl) hle hfin hg he
theorem one_f {g : List Nat}
    (h1 : ((g.length : Int) == (1:Int)) = false) :
    Goes E203 B203 [(0, (W g))] .ret [(2, (bl false))] :=
  pathG [.r [] [0, 2], .r [.b false, .b false, .b false, .b false] [0, 2]] ((cc h1 (cc h1 (cc h1 (cc h1 (cc h1 (cc (er false) nn))))))) (by kernel_rfl)
theorem one_t {g : List Nat} {t : Bool}
    (h1 : ((g.length : Int) == (1:Int)) = true)
    (h2 : idx g.length (0:Int))
    (h3 : (bif ((g.length : Int) == (1:Int)) then ((g.getD (Int.toNat (0:Int)) 0 : Int) == (1:Int)) else false) = t) :
    Goes E203 B203 [(0, (W g))] .ret [(2, (bl t))] :=
  pathG [.r [] [0, 2], .r [.b true, .b true, .b true, .b true] [0, 2]] ((cc h1 (cc h1 (cc h2 (cc h1 (cc h1 (cc tt (cc h3 nn)))))))) (by kernel_rfl)

theorem nat_ofw (n : Nat) (hn : n < 18446744073709551616) : Den PP 77 [num .u64 (n : Int)] [num .u64 (n : Int)] (W (wd n)) := by
  have ho := nat_of n hn
  have : [n % 4294967296, n / 4294967296] = digs 2 n := by
    simp only [digs]; rw [Nat.mod_eq_of_lt (a := n / 4294967296) (by omega)]
  rw [this, trim_digs_lt (by omega)] at ho
  exact ho
theorem wd_is_one {n : Nat} : ((wd n).length = 1 ∧ (wd n).getD 0 0 = 1) ↔ n = 1 := by
  constructor
  · rintro ⟨h1, h2⟩; rw [← wd_one h1, h2]
  · rintro rfl
    have : wd 1 = [1] := by rw [wd_pos (by omega)]; simp [wd_zero]
    rw [this]; exact ⟨rfl, rfl⟩
theorem len_eq (l : List Nat) (k : Nat) : ((l.length : Int) == (k : Int)) = decide (l.length = k) := by
  by_cases h : l.length = k
  · rw [decide_eq_true h, beq_iff_eq]; omega
  · rw [decide_eq_false h, beq_eq_false_iff_ne]; omega
theorem common_one (n : Nat) : Den PP 203 [W (wd n)] [W (wd n)] (bl (decide (n = 1))) := by
  refine D203 (gout := [(2, bl (decide (n = 1)))]) (e := .ret) ?_ (.inr rfl) (by kernel_rfl) (by kernel_rfl)
  by_cases h : (wd n).length = 1
  · refine one_t ?_ ?_ ?_
    · rw [h]; rfl
    · exact ⟨by omega, by omega⟩
    · rw [h]
      show ((((wd n).getD 0 0 : Nat) : Int) == 1) = decide (n = 1)
      by_cases h1 : n = 1
      · rw [decide_eq_true h1, (wd_is_one.2 h1).2]; rfl
      · rw [decide_eq_false h1, beq_eq_false_iff_ne]
        intro h2; exact h1 (wd_is_one.1 ⟨h, by omega⟩)
  · rw [decide_eq_false (fun h1 => h (wd_is_one.2 h1).1)]
    refine one_f ?_
    rw [beq_eq_false_iff_ne]; omega
noncomputable def B202 : Code := codeOf Tryz.f202
noncomputable def E202 : Env := EV PP 56 []
theorem D202 {args outs : List S} {gout : List (Nat × S)} {e : Fin} {res : S} (hg : Goes E202 B202 (entry 0 args) e gout) (he : e = .normal ∨ e = .ret) (hle : Nat.ble args.length 56 = true)
    (hfin : finE (tabOf PP) gout Tryz.f202.results.toList args [] = some (outs, res)) : Den PP 202 args outs res :=
  den_tab (fn := Tryz.f202) (c := B202) (by kernel_rfl) (by kernel_rfl) (by kernel_rfl) (by kernel_rfl) hle hfin hg he
noncomputable def L202a : Code := sub [true, true, false, false, false] B202
def sGc (x y : List Nat) : List (Nat × S) := [(0, (W x)), (1, (W y))]
theorem gc_in {x y q r : List Nat} 
    (h1 : Den PP 204 [(W x), (W y)] [(W x), (W y)] (.tup [wc q, wc r, bc true]))
    (h2 : (decide ((y.length : Int) > (2:Int))) = true) :
    Goes E202 L202a (sGc x y) .normal (sGc y r) :=
  pathG [.r [] [0, 1, 21], .t true, .r [.c [(W x), (W y)] [(W x), (W y)] (.tup [wc q, wc r, bc true])] [0, 1, 6, 21], .r [] [0, 1, 6, 21]] ((cc h2 (cc (fq x.length 1 (wf x)) (cc (fq y.length 1 (wf y)) (cc h1 (cc (fq y.length 1 (wf y)) (cc (fq r.length 1 (wf r)) nn))))))) (by kernel_rfl)
theorem gc_out {x y : List Nat} 
    (h1 : (decide ((y.length : Int) > (2:Int))) = false) :
    Goes E202 L202a (sGc x y) (.exit 0) (sGc x y) :=
  pathG [.r [] [0, 1, 21], .t false] ((cc h1 (cc (fq x.length 1 (wf x)) (cc (fq y.length 1 (wf y)) nn)))) (by kernel_rfl)
theorem gc_nil {a b x y m n : List Nat} 
    (h1 : Den PP 168 [(W a)] [(W a)] (W x))
    (h2 : Den PP 168 [(W b)] [(W b)] (W y))
    (h3 : Loops E202 L202a (sGc x y) (.exit 0) (sGc m n))
    (h4 : ((n.length : Int) == (0:Int)) = true) :
    Goes E202 B202 [(0, (W a)), (1, (W b))] .ret [(4, (W m))] :=
  pathG [.r [] [0, 1, 4], .r [.c [(W a)] [(W a)] (W x), .c [(W b)] [(W b)] (W y)] [0, 1, 4], .l (sGc x y) (.exit 0) (sGc m n), .r [] [0, 1, 33], .t true, .r [] [0, 1, 4, 33]] ((cc (fq a.length 1 (wf a)) (cc h1 (cc (fq b.length 1 (wf b)) (cc h2 (cc (fq x.length 1 (wf x)) (cc (fq y.length 1 (wf y)) (cc h3 (cc h4 (cc (fq m.length 1 (wf m)) nn)))))))))) (by kernel_rfl)
theorem gc_all {a b x y q r w m n : List Nat} {k j z : Nat}
    (h1 : Den PP 168 [(W a)] [(W a)] (W x))
    (h2 : Den PP 168 [(W b)] [(W b)] (W y))
    (h3 : Loops E202 L202a (sGc x y) (.exit 0) (sGc m n))
    (h4 : Den PP 204 [(W m), (W n)] [(W m), (W n)] (.tup [wc q, wc r, bc true]))
    (h5 : Den PP 243 [(W n)] [(W n)] (.tup [u64c k, bc true]))
    (h6 : Den PP 243 [(W r)] [(W r)] (.tup [u64c j, bc true]))
    (h7 : Den PP 244 [(num .u64 ((k : Nat) : Int)), (num .u64 ((j : Nat) : Int))] [(num .u64 ((k : Nat) : Int)), (num .u64 ((j : Nat) : Int))] (num .u64 ((z : Nat) : Int)))
    (h8 : Den PP 77 [(num .u64 ((z : Nat) : Int))] [(num .u64 ((z : Nat) : Int))] (W w))
    (h9 : ((n.length : Int) == (0:Int)) = false) :
    Goes E202 B202 [(0, (W a)), (1, (W b))] .ret [(4, (W w))] :=
  pathG [.r [] [0, 1, 4], .r [.c [(W a)] [(W a)] (W x), .c [(W b)] [(W b)] (W y)] [0, 1, 4], .l (sGc x y) (.exit 0) (sGc m n), .r [] [0, 1, 33], .t false, .r [.c [(W m), (W n)] [(W m), (W n)] (.tup [wc q, wc r, bc true])] [0, 1, 9, 33], .r [.c [(W n)] [(W n)] (.tup [u64c k, bc true])] [0, 1, 9, 11, 33], .r [.c [(W r)] [(W r)] (.tup [u64c j, bc true])] [0, 1, 9, 11, 13, 33], .r [.c [(num .u64 ((k : Nat) : Int)), (num .u64 ((j : Nat) : Int))] [(num .u64 ((k : Nat) : Int)), (num .u64 ((j : Nat) : Int))] (num .u64 ((z : Nat) : Int)), .c [(num .u64 ((z : Nat) : Int))] [(num .u64 ((z : Nat) : Int))] (W w)] [0, 1, 4, 9, 11, 13, 33]] ((cc (fq a.length 1 (wf a)) (cc h1 (cc (fq b.length 1 (wf b)) (cc h2 (cc (fq x.length 1 (wf x)) (cc (fq y.length 1 (wf y)) (cc h3 (cc h9 (cc (fq m.length 1 (wf m)) (cc (fq n.length 1 (wf n)) (cc h4 (cc (fq n.length 1 (wf n)) (cc h5 (cc (fq r.length 1 (wf r)) (cc h6 (cc (er ((k : Nat) : Int)) (cc (er ((j : Nat) : Int)) (cc h7 (cc (er ((z : Nat) : Int)) (cc h8 (cc (fq w.length 1 (wf w)) nn)))))))))))))))))))))) (by kernel_rfl)

theorem gc_loop (K : Nat) (hK : K ≤ 536870912) (n : Nat) : ∀ m, (wd m).length ≤ K → (wd n).length ≤ K → ∃ m' n', Loops E202 L202a (sGc (wd m) (wd n)) (.exit 0) (sGc (wd m') (wd n')) ∧ Nat.gcd m' n' = Nat.gcd m n ∧ (wd n').length ≤ 2 ∧ (wd m').length ≤ K := by
  induction n using Nat.strongRecOn with
  | _ n ih =>
    intro m hm hn
    by_cases h : (wd n).length ≤ 2
    · exact ⟨m, n, .leave (gc_out (decide_eq_false (by omega))) (fun h => by cases h), rfl, h, hm⟩
    · have h0 : n ≠ 0 := by rintro rfl; rw [wd_zero] at h; simp at h
      have hd := quot_div (wd m) (wd n) (wd_Wd _) (wd_Wd _) (by omega) (by omega) (by rw [val_wd]; exact h0)
      rw [val_wd, val_wd] at hd
      have hlt := Nat.mod_lt m (show 0 < n by omega)
      obtain ⟨m', n', h1, h2, h3, h4⟩ := ih (m % n) hlt n hn (Nat.le_trans (wd_mono (Nat.le_of_lt hlt)) hn)
      exact ⟨m', n', .again (gc_in hd (decide_eq_true (by omega))) h1, by rw [h2, gcd_step], h3, h4⟩
theorem common_gcd (a b : List Nat) (ha : Wd a) (hb : Wd b) (la : a.length ≤ 536870912) (lb : b.length ≤ 536870912) :
    Den PP 202 [W a, W b] [W a, W b] (W (wd (Nat.gcd (val a) (val b)))) := by
  refine D202 (gout := [(4, W (wd (Nat.gcd (val a) (val b))))]) (e := .ret) ?_ (by first | exact .inr rfl | exact .inl rfl) (by kernel_rfl) (by kernel_rfl)

  have hna := (nat_norm a (by omega)).plain
  have hnb := (nat_norm b (by omega)).plain
  rw [trimL_eq ha] at hna
  rw [trimL_eq hb] at hnb
  obtain ⟨m, n, h1, h2, h3, h4⟩ := gc_loop 536870912 (by omega) (val b) (val a) (Nat.le_trans (wd_len_of ha) la) (Nat.le_trans (wd_len_of hb) lb)
  rw [← h2]
  by_cases h0 : n = 0
  · subst h0
    rw [Nat.gcd_zero_right]
    rw [wd_zero] at h1
    exact gc_nil hna hnb h1 rfl
  · have hd := quot_div (wd m) (wd n) (wd_Wd _) (wd_Wd _) (by omega) (by omega) (by rw [val_wd]; exact h0)
    rw [val_wd, val_wd] at hd
    have hlt := Nat.mod_lt m (show 0 < n by omega)
    have hn64 : n < 18446744073709551616 := by
      have h5 := wd_len_lt n
      have : 4294967296 ^ (wd n).length ≤ 4294967296 ^ 2 := Nat.pow_le_pow_right (by omega) h3
      omega
    have hs1 := nat_small (wd n) (wd_Wd _) (by omega) (by rw [val_wd]; exact hn64)
    have hs2 := nat_small (wd (m % n)) (wd_Wd _) (Nat.le_trans (wd_mono (Nat.le_of_lt hlt)) (by omega)) (by rw [val_wd]; omega)
    rw [val_wd] at hs1 hs2
    have hsm := common_small n (m % n)
    rw [gcd_step] at hsm
    have hg : Nat.gcd m n < 18446744073709551616 := Nat.lt_of_le_of_lt (Nat.gcd_le_right _ (by omega)) hn64
    refine gc_all hna hnb h1 hd hs1 hs2 hsm (nat_ofw _ hg) ?_
    have := wd_pos_len h0
    rw [beq_eq_false_iff_ne]; omega
noncomputable def B163 : Code := codeOf Tryz.f163
noncomputable def E163 : Env := EV PP 37 []
theorem D163 {args outs : List S} {gout : List (Nat × S)} {e : Fin} {res : S} (hg : Goes E163 B163 (entry 0 args) e gout) (he : e = .normal ∨ e = .ret) (hle : Nat.ble args.length 37 = true)
    (hfin : finE (tabOf PP) gout Tryz.f163.results.toList args [] = some (outs, res)) : Den PP 163 args outs res :=
  den_tab (fn := Tryz.f163) (c := B163) (by kernel_rfl) (by kernel_rfl) (by kernel_rfl) (by kernel_rfl) hle hfin hg he
theorem ca_nil {a b g : List Nat}
    (h1 : Den PP 202 [(W a), (W b)] [(W a), (W b)] (W g))
    (h2 : ((g.length : Int) == (0:Int)) = true)
    (h3 : ([] : List Nat).length = 0) :
    Goes E163 B163 [(0, (W a)), (1, (W b))] .ret [(4, (W ([] : List Nat))), (5, (W ([] : List Nat)))] :=
  pathG [.r [] [0, 1, 4, 5], .r [.c [(W a), (W b)] [(W a), (W b)] (W g)] [0, 1, 4, 5, 6], .r [] [0, 1, 4, 5, 6, 10], .t true, .r [] [0, 1, 4, 5, 6, 10]] ((cc (fq a.length 1 (wf a)) (cc (fq b.length 1 (wf b)) (cc h1 (cc h2 (cc h3 (cc h3 nn))))))) (by kernel_rfl)
theorem ca_one {a b g x y : List Nat}
    (h1 : Den PP 202 [(W a), (W b)] [(W a), (W b)] (W g))
    (h2 : Den PP 203 [(W g)] [(W g)] (bl true))
    (h3 : Den PP 168 [(W a)] [(W a)] (W x))
    (h4 : Den PP 168 [(W b)] [(W b)] (W y))
    (h5 : ((g.length : Int) == (0:Int)) = false) :
    Goes E163 B163 [(0, (W a)), (1, (W b))] .ret [(4, (W x)), (5, (W y))] :=
  pathG [.r [] [0, 1, 4, 5], .r [.c [(W a), (W b)] [(W a), (W b)] (W g)] [0, 1, 4, 5, 6], .r [] [0, 1, 4, 5, 6, 10], .t false, .r [.c [(W g)] [(W g)] (bl true)] [0, 1, 4, 5, 6, 10, 14], .t true, .r [.c [(W a)] [(W a)] (W x), .c [(W b)] [(W b)] (W y)] [0, 1, 4, 5, 6, 10, 14]] ((cc (fq a.length 1 (wf a)) (cc (fq b.length 1 (wf b)) (cc h1 (cc h5 (cc (fq g.length 1 (wf g)) (cc h2 (cc (er true) (cc (fq a.length 1 (wf a)) (cc h3 (cc (fq b.length 1 (wf b)) (cc h4 (cc (fq x.length 1 (wf x)) (cc (fq y.length 1 (wf y)) nn)))))))))))))) (by kernel_rfl)
theorem ca_all {a b g x y q r : List Nat}
    (h1 : Den PP 202 [(W a), (W b)] [(W a), (W b)] (W g))
    (h2 : Den PP 203 [(W g)] [(W g)] (bl false))
    (h3 : Den PP 204 [(W a), (W g)] [(W a), (W g)] (.tup [wc x, wc q, bc true]))
    (h4 : Den PP 204 [(W b), (W g)] [(W b), (W g)] (.tup [wc y, wc r, bc true]))
    (h5 : ((g.length : Int) == (0:Int)) = false) :
    Goes E163 B163 [(0, (W a)), (1, (W b))] .ret [(4, (W x)), (5, (W y))] :=
  pathG [.r [] [0, 1, 4, 5], .r [.c [(W a), (W b)] [(W a), (W b)] (W g)] [0, 1, 4, 5, 6], .r [] [0, 1, 4, 5, 6, 10], .t false, .r [.c [(W g)] [(W g)] (bl false)] [0, 1, 4, 5, 6, 10, 14], .t false, .r [.c [(W a), (W g)] [(W a), (W g)] (.tup [wc x, wc q, bc true])] [0, 1, 4, 5, 6, 10, 14], .r [.c [(W b), (W g)] [(W b), (W g)] (.tup [wc y, wc r, bc true])] [0, 1, 4, 5, 6, 10, 14], .r [] [0, 1, 4, 5, 6, 10, 14]] ((cc (fq a.length 1 (wf a)) (cc (fq b.length 1 (wf b)) (cc h1 (cc h5 (cc (fq g.length 1 (wf g)) (cc h2 (cc (er false) (cc (fq a.length 1 (wf a)) (cc (fq g.length 1 (wf g)) (cc h3 (cc (fq b.length 1 (wf b)) (cc (fq g.length 1 (wf g)) (cc h4 (cc (fq x.length 1 (wf x)) (cc (fq y.length 1 (wf y)) nn)))))))))))))))) (by kernel_rfl)
theorem common_cancel (a b : List Nat) (ha : Wd a) (hb : Wd b) (la : a.length ≤ 536870912) (lb : b.length ≤ 536870912) :
    Den PP 163 [W a, W b] [W a, W b] (.tup [wc (wd (val a / Nat.gcd (val a) (val b))), wc (wd (val b / Nat.gcd (val a) (val b)))]) := by
  refine D163 (gout := [(4, W (wd (val a / Nat.gcd (val a) (val b)))), (5, W (wd (val b / Nat.gcd (val a) (val b))))]) (e := .ret) ?_ (by first | exact .inr rfl | exact .inl rfl) (by kernel_rfl) (by kernel_rfl)

  have hg := common_gcd a b ha hb la lb
  by_cases h0 : Nat.gcd (val a) (val b) = 0
  · rw [h0, wd_zero] at hg
    rw [h0, Nat.div_zero, Nat.div_zero, wd_zero]
    exact ca_nil hg rfl rfl
  · have hpos := wd_pos_len h0
    have hne : (((wd (Nat.gcd (val a) (val b))).length : Int) == (0:Int)) = false := by rw [beq_eq_false_iff_ne]; omega
    have ho := common_one (Nat.gcd (val a) (val b))
    by_cases h1 : Nat.gcd (val a) (val b) = 1
    · have hna := (nat_norm a (by omega)).plain
      have hnb := (nat_norm b (by omega)).plain
      rw [trimL_eq ha] at hna
      rw [trimL_eq hb] at hnb
      rw [decide_eq_true h1] at ho
      rw [h1] at hg ho hne ⊢
      rw [Nat.div_one, Nat.div_one]
      exact ca_one hg ho hna hnb hne
    · rw [decide_eq_false h1] at ho
      have hgl : (wd (Nat.gcd (val a) (val b))).length ≤ 536870912 := by
        by_cases hv : val a = 0
        · rw [hv, Nat.gcd_zero_left]; exact Nat.le_trans (wd_len_of hb) lb
        · exact Nat.le_trans (wd_mono (Nat.gcd_le_left _ (by omega))) (Nat.le_trans (wd_len_of ha) la)
      have hda := quot_div a (wd (Nat.gcd (val a) (val b))) ha (wd_Wd _) la hgl (by rw [val_wd]; exact h0)
      have hdb := quot_div b (wd (Nat.gcd (val a) (val b))) hb (wd_Wd _) lb hgl (by rw [val_wd]; exact h0)
      rw [val_wd] at hda hdb
      exact ca_all hg ho hda hdb hne
end Go.X
