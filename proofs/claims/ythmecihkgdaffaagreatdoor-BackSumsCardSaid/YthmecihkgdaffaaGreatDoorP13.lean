/- Part 13 of the proof of BackSums: Paths and contracts. Paths and contracts. Numbers as lists of words of 32 bits, the lowest first. Paths and contracts. No conditions but those that each theorem names. -/
import Derived.Test.YthmecihkgdaffaaGreatDoorP12
namespace Go.X
open Go Go.Proofs

/-- a word of 32 bits, as a slot, as a component -/
def u (n : Nat) : S := num .u32 (n : Int)
def uc (n : Nat) : Bool × List C := (false, [.d (.v (.int .u32 (n : Int)))])
def bc (b : Bool) : Bool × List C := (false, [.d (.v (.bool b))])
theorem wr32 (n : Int) : wr .u32 n = n % 4294967296 := rfl
theorem wr64 (n : Int) : wr .u64 n = n % 18446744073709551616 := rfl
noncomputable def B249 : Code := codeOf Tryz.f249
theorem D249 {args outs : List S} {gout : List (Nat × S)} {e : Fin} {res : S} (hle : Nat.ble args.length 26 = true)
    (hfin : finE (tabOf PP) gout Tryz.f249.results.toList args [] = some (outs, res)) (hg : Goes (EV PP 26 []) B249 (entry 0 args) e gout) (he : e = .normal ∨ e = .ret) : Den PP 249 args outs res :=
  den_tab (fn := Tryz.f249) (c := B249) (by kernel_rfl) (by kernel_rfl) (by kernel_rfl) (by kernel_rfl) hle hfin hg he
theorem ladd_tt (x y c : Nat) (s k : Nat)
    (h1 : (decide ((wr .u32 ((x : Int) + (y : Int))) < (x : Int))) = true)
    (h2 : (decide ((wr .u32 ((wr .u32 ((x : Int) + (y : Int))) + (c : Int))) < (c : Int))) = true)
    (h3 : (wr .u32 ((wr .u32 ((x : Int) + (y : Int))) + (c : Int))) = (s : Int))
    (h4 : (wr .u32 ((wr .u32 ((0:Int) + (1:Int))) + (1:Int))) = (k : Int)) :
    Goes (EV PP 26 []) B249 [(0, (u x)), (1, (u y)), (2, (u c))] .ret [(6, (u s)), (7, (u k))] :=
  pathG [.r [] [0, 1, 2, 6, 7], .r [] [0, 1, 2, 6, 7], .r [] [0, 1, 2, 6, 7, 13], .t true, .r [] [0, 1, 2, 6, 7, 13], .r [] [0, 1, 2, 6, 7, 13], .r [] [0, 1, 2, 6, 7, 13, 21], .t true, .r [] [0, 1, 2, 6, 7, 13, 21], .r [] [0, 1, 2, 6, 7, 13, 21]] ((cc tt (cc h1 (cc tt (cc tt (cc h2 (cc tt (cc h3 (cc h4 nn))))))))) (by kernel_rfl)
theorem ladd_tf (x y c : Nat) (s k : Nat)
    (h1 : (decide ((wr .u32 ((x : Int) + (y : Int))) < (x : Int))) = true)
    (h2 : (decide ((wr .u32 ((wr .u32 ((x : Int) + (y : Int))) + (c : Int))) < (c : Int))) = false)
    (h3 : (wr .u32 ((wr .u32 ((x : Int) + (y : Int))) + (c : Int))) = (s : Int))
    (h4 : (wr .u32 ((0:Int) + (1:Int))) = (k : Int)) :
    Goes (EV PP 26 []) B249 [(0, (u x)), (1, (u y)), (2, (u c))] .ret [(6, (u s)), (7, (u k))] :=
  pathG [.r [] [0, 1, 2, 6, 7], .r [] [0, 1, 2, 6, 7], .r [] [0, 1, 2, 6, 7, 13], .t true, .r [] [0, 1, 2, 6, 7, 13], .r [] [0, 1, 2, 6, 7, 13], .r [] [0, 1, 2, 6, 7, 13, 21], .t false, .r [] [0, 1, 2, 6, 7, 13, 21]] ((cc tt (cc h1 (cc tt (cc tt (cc h2 (cc h3 (cc h4 nn)))))))) (by kernel_rfl)
theorem ladd_ft (x y c : Nat) (s k : Nat)
    (h1 : (decide ((wr .u32 ((x : Int) + (y : Int))) < (x : Int))) = false)
    (h2 : (decide ((wr .u32 ((wr .u32 ((x : Int) + (y : Int))) + (c : Int))) < (c : Int))) = true)
    (h3 : (wr .u32 ((wr .u32 ((x : Int) + (y : Int))) + (c : Int))) = (s : Int))
    (h4 : (wr .u32 ((0:Int) + (1:Int))) = (k : Int)) :
    Goes (EV PP 26 []) B249 [(0, (u x)), (1, (u y)), (2, (u c))] .ret [(6, (u s)), (7, (u k))] :=
  pathG [.r [] [0, 1, 2, 6, 7], .r [] [0, 1, 2, 6, 7], .r [] [0, 1, 2, 6, 7, 13], .t false, .r [] [0, 1, 2, 6, 7, 13], .r [] [0, 1, 2, 6, 7, 13, 21], .t true, .r [] [0, 1, 2, 6, 7, 13, 21], .r [] [0, 1, 2, 6, 7, 13, 21]] ((cc tt (cc h1 (cc tt (cc h2 (cc tt (cc h3 (cc h4 nn)))))))) (by kernel_rfl)
theorem ladd_ff (x y c : Nat) (s k : Nat)
    (h1 : (decide ((wr .u32 ((x : Int) + (y : Int))) < (x : Int))) = false)
    (h2 : (decide ((wr .u32 ((wr .u32 ((x : Int) + (y : Int))) + (c : Int))) < (c : Int))) = false)
    (h3 : (wr .u32 ((wr .u32 ((x : Int) + (y : Int))) + (c : Int))) = (s : Int))
    (h4 : (0:Int) = (k : Int)) :
    Goes (EV PP 26 []) B249 [(0, (u x)), (1, (u y)), (2, (u c))] .ret [(6, (u s)), (7, (u k))] :=
  pathG [.r [] [0, 1, 2, 6, 7], .r [] [0, 1, 2, 6, 7], .r [] [0, 1, 2, 6, 7, 13], .t false, .r [] [0, 1, 2, 6, 7, 13], .r [] [0, 1, 2, 6, 7, 13, 21], .t false, .r [] [0, 1, 2, 6, 7, 13, 21]] ((cc tt (cc h1 (cc tt (cc h2 (cc h3 (cc h4 nn))))))) (by kernel_rfl)

theorem limb_add (x y c : Nat) (hx : x < 4294967296) (hy : y < 4294967296) (hc : c < 4294967296) :
    Den PP 249 [u x, u y, u c] [u x, u y, u c] (.tup [uc ((x + y + c) % 4294967296), uc ((x + y + c) / 4294967296)]) := by
  refine D249 (gout := [(6, u ((x + y + c) % 4294967296)), (7, u ((x + y + c) / 4294967296))]) (e := .ret) (by kernel_rfl) (by kernel_rfl) ?_ (.inr rfl)
  by_cases h1 : (x + y) % 4294967296 < x <;> by_cases h2 : ((x + y) % 4294967296 + c) % 4294967296 < c
  · refine ladd_tt x y c _ _ ?_ ?_ ?_ ?_ <;> simp only [wr32] <;> first | exact decide_eq_true (by omega) | exact decide_eq_false (by omega) | omega
  · refine ladd_tf x y c _ _ ?_ ?_ ?_ ?_ <;> simp only [wr32] <;> first | exact decide_eq_true (by omega) | exact decide_eq_false (by omega) | omega
  · refine ladd_ft x y c _ _ ?_ ?_ ?_ ?_ <;> simp only [wr32] <;> first | exact decide_eq_true (by omega) | exact decide_eq_false (by omega) | omega
  · refine ladd_ff x y c _ _ ?_ ?_ ?_ ?_ <;> (try simp only [wr32]) <;> first | exact decide_eq_true (by omega) | exact decide_eq_false (by omega) | omega
noncomputable def B250 : Code := codeOf Tryz.f250
theorem D250 {args outs : List S} {gout : List (Nat × S)} {e : Fin} {res : S} (hle : Nat.ble args.length 25 = true)
    (hfin : finE (tabOf PP) gout Tryz.f250.results.toList args [] = some (outs, res)) (hg : Goes (EV PP 25 []) B250 (entry 0 args) e gout) (he : e = .normal ∨ e = .ret) : Den PP 250 args outs res :=
  den_tab (fn := Tryz.f250) (c := B250) (by kernel_rfl) (by kernel_rfl) (by kernel_rfl) (by kernel_rfl) hle hfin hg he
theorem lsub_tt (x y b : Nat) (s k : Nat)
    (h1 : (decide ((x : Int) < (y : Int))) = true)
    (h2 : (decide ((wr .u32 ((x : Int) - (y : Int))) < (b : Int))) = true)
    (h3 : (wr .u32 ((wr .u32 ((x : Int) - (y : Int))) - (b : Int))) = (s : Int))
    (h4 : (wr .u32 ((wr .u32 ((0:Int) + (1:Int))) + (1:Int))) = (k : Int)) :
    Goes (EV PP 25 []) B250 [(0, (u x)), (1, (u y)), (2, (u b))] .ret [(6, (u s)), (7, (u k))] :=
  pathG [.r [] [0, 1, 2, 6, 7], .r [] [0, 1, 2, 6, 7], .r [] [0, 1, 2, 6, 7, 13], .t true, .r [] [0, 1, 2, 6, 7, 13], .r [] [0, 1, 2, 6, 7, 13, 18], .t true, .r [] [0, 1, 2, 6, 7, 13, 18], .r [] [0, 1, 2, 6, 7, 13, 18]] ((cc tt (cc h1 (cc tt (cc h2 (cc tt (cc tt (cc h3 (cc h4 nn))))))))) (by kernel_rfl)
theorem lsub_tf (x y b : Nat) (s k : Nat)
    (h1 : (decide ((x : Int) < (y : Int))) = true)
    (h2 : (decide ((wr .u32 ((x : Int) - (y : Int))) < (b : Int))) = false)
    (h3 : (wr .u32 ((wr .u32 ((x : Int) - (y : Int))) - (b : Int))) = (s : Int))
    (h4 : (wr .u32 ((0:Int) + (1:Int))) = (k : Int)) :
    Goes (EV PP 25 []) B250 [(0, (u x)), (1, (u y)), (2, (u b))] .ret [(6, (u s)), (7, (u k))] :=
  pathG [.r [] [0, 1, 2, 6, 7], .r [] [0, 1, 2, 6, 7], .r [] [0, 1, 2, 6, 7, 13], .t true, .r [] [0, 1, 2, 6, 7, 13], .r [] [0, 1, 2, 6, 7, 13, 18], .t false, .r [] [0, 1, 2, 6, 7, 13, 18]] ((cc tt (cc h1 (cc tt (cc h2 (cc tt (cc h3 (cc h4 nn)))))))) (by kernel_rfl)
theorem lsub_ft (x y b : Nat) (s k : Nat)
    (h1 : (decide ((x : Int) < (y : Int))) = false)
    (h2 : (decide ((wr .u32 ((x : Int) - (y : Int))) < (b : Int))) = true)
    (h3 : (wr .u32 ((wr .u32 ((x : Int) - (y : Int))) - (b : Int))) = (s : Int))
    (h4 : (wr .u32 ((0:Int) + (1:Int))) = (k : Int)) :
    Goes (EV PP 25 []) B250 [(0, (u x)), (1, (u y)), (2, (u b))] .ret [(6, (u s)), (7, (u k))] :=
  pathG [.r [] [0, 1, 2, 6, 7], .r [] [0, 1, 2, 6, 7], .r [] [0, 1, 2, 6, 7, 13], .t false, .r [] [0, 1, 2, 6, 7, 13, 18], .t true, .r [] [0, 1, 2, 6, 7, 13, 18], .r [] [0, 1, 2, 6, 7, 13, 18]] ((cc tt (cc h1 (cc h2 (cc tt (cc tt (cc h3 (cc h4 nn)))))))) (by kernel_rfl)
theorem lsub_ff (x y b : Nat) (s k : Nat)
    (h1 : (decide ((x : Int) < (y : Int))) = false)
    (h2 : (decide ((wr .u32 ((x : Int) - (y : Int))) < (b : Int))) = false)
    (h3 : (wr .u32 ((wr .u32 ((x : Int) - (y : Int))) - (b : Int))) = (s : Int))
    (h4 : (0:Int) = (k : Int)) :
    Goes (EV PP 25 []) B250 [(0, (u x)), (1, (u y)), (2, (u b))] .ret [(6, (u s)), (7, (u k))] :=
  pathG [.r [] [0, 1, 2, 6, 7], .r [] [0, 1, 2, 6, 7], .r [] [0, 1, 2, 6, 7, 13], .t false, .r [] [0, 1, 2, 6, 7, 13, 18], .t false, .r [] [0, 1, 2, 6, 7, 13, 18]] ((cc tt (cc h1 (cc h2 (cc tt (cc h3 (cc h4 nn))))))) (by kernel_rfl)

theorem limb_sub (x y b : Nat) (hx : x < 4294967296) (hy : y < 4294967296) (hb : b < 4294967296) :
    Den PP 250 [u x, u y, u b] [u x, u y, u b] (.tup [uc ((x + 8589934592 - y - b) % 4294967296), uc (2 - (x + 8589934592 - y - b) / 4294967296)]) := by
  refine D250 (gout := [(6, u ((x + 8589934592 - y - b) % 4294967296)), (7, u (2 - (x + 8589934592 - y - b) / 4294967296))]) (e := .ret) (by kernel_rfl) (by kernel_rfl) ?_ (.inr rfl)
  by_cases h1 : x < y <;> by_cases h2 : (x + 4294967296 - y) % 4294967296 < b
  · refine lsub_tt x y b _ _ ?_ ?_ ?_ ?_ <;> (try simp only [wr32]) <;> first | exact decide_eq_true (by omega) | exact decide_eq_false (by omega) | omega
  · refine lsub_tf x y b _ _ ?_ ?_ ?_ ?_ <;> (try simp only [wr32]) <;> first | exact decide_eq_true (by omega) | exact decide_eq_false (by omega) | omega
  · refine lsub_ft x y b _ _ ?_ ?_ ?_ ?_ <;> (try simp only [wr32]) <;> first | exact decide_eq_true (by omega) | exact decide_eq_false (by omega) | omega
  · refine lsub_ff x y b _ _ ?_ ?_ ?_ ?_ <;> (try simp only [wr32]) <;> first | exact decide_eq_true (by omega) | exact decide_eq_false (by omega) | omega
noncomputable def B207 : Code := codeOf Tryz.f207
theorem D207 {args outs : List S} {gout : List (Nat × S)} {e : Fin} {res : S} (hle : Nat.ble args.length 27 = true)
    (hfin : finE (tabOf PP) gout Tryz.f207.results.toList args [] = some (outs, res)) (hg : Goes (EV PP 27 []) B207 (entry 0 args) e gout) (he : e = .normal ∨ e = .ret) : Den PP 207 args outs res :=
  den_tab (fn := Tryz.f207) (c := B207) (by kernel_rfl) (by kernel_rfl) (by kernel_rfl) (by kernel_rfl) hle hfin hg he
theorem lmul_p (x y c d : Nat) (s k : Nat)
    (h1 : 0 ≤ (32:Int))
    (h2 : (wr .u32 ((wr .u64 ((wr .u64 ((wr .u64 ((wr .u64 (x : Int)) * (wr .u64 (y : Int)))) + (wr .u64 (c : Int)))) + (wr .u64 (d : Int)))) / 2 ^ (min (Int.toNat (32:Int)) (IntKind.u64).bits))) = (s : Int))
    (h3 : (wr .u32 (wr .u64 ((wr .u64 ((wr .u64 ((wr .u64 (x : Int)) * (wr .u64 (y : Int)))) + (wr .u64 (c : Int)))) + (wr .u64 (d : Int))))) = (k : Int)) :
    Goes (EV PP 27 []) B207 [(0, (u x)), (1, (u y)), (2, (u c)), (3, (u d))] .ret [(8, (u s)), (9, (u k))] :=
  pathG [.r [] [0, 1, 2, 3, 8, 9], .r [] [0, 1, 2, 3, 8, 9, 10], .r [] [0, 1, 2, 3, 8, 9, 10]] ((cc tt (cc tt (cc tt (cc tt (cc tt (cc tt (cc tt (cc h1 (cc tt (cc tt (cc h2 (cc h3 nn))))))))))))) (by kernel_rfl)

theorem limb_mul (x y c d : Nat) (hx : x < 4294967296) (hy : y < 4294967296) (hc : c < 4294967296) (hd : d < 4294967296) :
    Den PP 207 [u x, u y, u c, u d] [u x, u y, u c, u d] (.tup [uc ((x * y + c + d) / 4294967296), uc ((x * y + c + d) % 4294967296)]) := by
  refine D207 (gout := [(8, u ((x * y + c + d) / 4294967296)), (9, u ((x * y + c + d) % 4294967296))]) (e := .ret) (by kernel_rfl) (by kernel_rfl) ?_ (.inr rfl)
  have hp : x * y ≤ 4294967295 * 4294967295 := Nat.mul_le_mul (by omega) (by omega)
  have e1 : wr .u64 (x : Int) = x := by rw [wr64]; omega
  have e2 : wr .u64 (y : Int) = y := by rw [wr64]; omega
  have e3 : wr .u64 (c : Int) = c := by rw [wr64]; omega
  have e4 : wr .u64 (d : Int) = d := by rw [wr64]; omega
  have e5 : (x : Int) * y = ((x * y : Nat) : Int) := by simp
  have e6 : wr .u64 (wr .u64 (((x * y : Nat) : Int) + c) + d) = ((x * y + c + d : Nat) : Int) := by
    rw [wr64, wr64]; omega
  have e7 : wr .u64 ((x * y : Nat) : Int) = ((x * y : Nat) : Int) := by rw [wr64]; omega
  refine lmul_p x y c d _ _ ?_ ?_ ?_
  · decide
  · rw [e1, e2, e3, e4, e5, e7, e6, wr32]; show ((x * y + c + d : Nat) : Int) / 4294967296 % 4294967296 = _; omega
  · rw [e1, e2, e3, e4, e5, e7, e6, wr32]; omega
noncomputable def B223 : Code := codeOf Tryz.f223
theorem D223 {args outs : List S} {gout : List (Nat × S)} {e : Fin} {res : S} (hle : Nat.ble args.length 29 = true)
    (hfin : finE (tabOf PP) gout Tryz.f223.results.toList args [] = some (outs, res)) (hg : Goes (EV PP 29 []) B223 (entry 0 args) e gout) (he : e = .normal ∨ e = .ret) : Den PP 223 args outs res :=
  den_tab (fn := Tryz.f223) (c := B223) (by kernel_rfl) (by kernel_rfl) (by kernel_rfl) (by kernel_rfl) hle hfin hg he
theorem ldiv_no (hi lo y : Nat)
    (h1 : (decide ((hi : Int) ≥ (y : Int))) = true) :
    Goes (EV PP 29 []) B223 [(0, (u hi)), (1, (u lo)), (2, (u y))] .ret [(6, (u 0)), (7, (u 0)), (8, (bl false))] :=
  pathG [.r [] [0, 1, 2, 6, 7, 8], .r [] [0, 1, 2, 6, 7, 8, 12], .t true, .r [] [0, 1, 2, 6, 7, 8, 12]] ((cc h1 (cc (er (0:Int)) (cc (er (0:Int)) (cc (er false) nn))))) (by kernel_rfl)
theorem ldiv_p (hi lo y n : Nat) (s k : Nat)
    (h1 : (decide ((hi : Int) ≥ (y : Int))) = false)
    (h2 : 0 ≤ (32:Int) ∧ True)
    (h3 : ((IntKind.u64).wrap (((BitVec.ofInt (IntKind.u64).bits (wr .u64 ((wr .u64 (hi : Int)) * 2 ^ (min (Int.toNat (32:Int)) (IntKind.u64).bits)))) ||| (BitVec.ofInt (IntKind.u64).bits (wr .u64 (lo : Int)))).toNat : Int)) = (n : Int))
    (h4 : 0 ≤ (n : Int) ∧ 0 < (wr .u64 (y : Int)) ∧ (inR .u64 (n : Int)))
    (h5 : 0 ≤ (n : Int) ∧ 0 < (wr .u64 (y : Int)))
    (h6 : (wr .u32 ((n : Int) / (wr .u64 (y : Int)))) = (s : Int))
    (h7 : (wr .u32 ((n : Int) % (wr .u64 (y : Int)))) = (k : Int)) :
    Goes (EV PP 29 []) B223 [(0, (u hi)), (1, (u lo)), (2, (u y))] .ret [(6, (u s)), (7, (u k)), (8, (bl true))] :=
  pathG [.r [] [0, 1, 2, 6, 7, 8], .r [] [0, 1, 2, 6, 7, 8, 12], .t false, .r [] [0, 1, 2, 6, 7, 8, 9, 12], .u [(2, (u y)), (9, (num .u64 (n : Int)))], .r [] [2, 6, 7, 8, 9] [0, 1, 2, 3, 4, 6, 7, 8, 9, 10, 5, 11, 12]] ((cc h1 (cc tt (cc h2 (cc tt (cc tt (cc (er (y : Int)) (cc h3 (cc tt (cc h4 (cc tt (cc tt (cc h5 (cc tt (cc h6 (cc h7 (cc (er true) nn))))))))))))))))) (by kernel_rfl)

theorem or_low (h l : Nat) (hl : l < 4294967296) : h * 4294967296 ||| l = h * 4294967296 + l := by
  have : h * 4294967296 = h <<< 32 := by rw [Nat.shiftLeft_eq]
  rw [this, Nat.shiftLeft_add_eq_or_of_lt (by omega)]
theorem or64 (x y : Nat) (hx : x < 18446744073709551616) (hy : y < 18446744073709551616) (hz : x ||| y < 18446744073709551616) :
    (IntKind.u64).wrap (((BitVec.ofInt (IntKind.u64).bits (x : Int)) ||| (BitVec.ofInt (IntKind.u64).bits (y : Int))).toNat : Int) = ((x ||| y : Nat) : Int) := by
  have h1 : (BitVec.ofInt (IntKind.u64).bits (x : Int)).toNat = x := by
    rw [BitVec.toNat_ofInt]; show ((x : Int) % (18446744073709551616 : Nat)).toNat = x; omega
  have h2 : (BitVec.ofInt (IntKind.u64).bits (y : Int)).toNat = y := by
    rw [BitVec.toNat_ofInt]; show ((y : Int) % (18446744073709551616 : Nat)).toNat = y; omega
  rw [BitVec.toNat_or, h1, h2]
  show ((x ||| y : Nat) : Int) % 18446744073709551616 = _
  omega
theorem limb_div_no (hi lo y : Nat) (h : y ≤ hi) :
    Den PP 223 [u hi, u lo, u y] [u hi, u lo, u y] (.tup [uc 0, uc 0, bc false]) := by
  refine D223 (gout := [(6, u 0), (7, u 0), (8, bl false)]) (e := .ret) (by kernel_rfl) (by kernel_rfl) ?_ (.inr rfl)
  exact ldiv_no hi lo y (decide_eq_true (by omega))
theorem limb_div (hi lo y : Nat) (h : hi < y) (hy : y < 4294967296) (hl : lo < 4294967296) :
    Den PP 223 [u hi, u lo, u y] [u hi, u lo, u y] (.tup [uc ((hi * 4294967296 + lo) / y), uc ((hi * 4294967296 + lo) % y), bc true]) := by
  refine D223 (gout := [(6, u ((hi * 4294967296 + lo) / y)), (7, u ((hi * 4294967296 + lo) % y)), (8, bl true)]) (e := .ret) (by kernel_rfl) (by kernel_rfl) ?_ (.inr rfl)
  have e1 : wr .u64 (y : Int) = y := by rw [wr64]; omega
  have e2 : wr .u64 (lo : Int) = lo := by rw [wr64]; omega
  have e3 : wr .u64 (wr .u64 (hi : Int) * 2 ^ (min (Int.toNat (32:Int)) (IntKind.u64).bits)) = ((hi * 4294967296 : Nat) : Int) := by
    have : (2 : Int) ^ (min (Int.toNat (32:Int)) (IntKind.u64).bits) = 4294967296 := by decide
    rw [this, wr64, wr64]; omega
  have hq : (hi * 4294967296 + lo) / y < 4294967296 := by
    rw [Nat.div_lt_iff_lt_mul (by omega)]
    have : hi * 4294967296 + 4294967296 ≤ y * 4294967296 := by
      have := Nat.mul_le_mul_right 4294967296 h
      rw [Nat.succ_mul] at this; exact this
    rw [Nat.mul_comm 4294967296 y]; omega
  have hr : (hi * 4294967296 + lo) % y < y := Nat.mod_lt _ (by omega)
  refine ldiv_p hi lo y (hi * 4294967296 + lo) _ _ (decide_eq_false (by omega)) ⟨by decide, trivial⟩ ?_ ?_ ?_ ?_ ?_
  · rw [e2, e3, or64 _ _ (by omega) (by omega) (by rw [or_low _ _ hl]; omega), or_low _ _ hl]
  · rw [e1]; exact ⟨by omega, by omega, by show (0 : Int) ≤ _ ∧ _ ≤ (18446744073709551615 : Int); omega⟩
  · rw [e1]; exact ⟨by omega, by omega⟩
  · rw [e1, wr32, ← Int.natCast_ediv]; generalize (hi * 4294967296 + lo) / y = q at hq ⊢; omega
  · rw [e1, wr32, ← Int.natCast_emod]; generalize (hi * 4294967296 + lo) % y = q at hr ⊢; omega
end Go.X
namespace Go.X
open Go Go.Proofs
noncomputable def B127 : Code := codeOf Tryz.f127
theorem D127 {args outs : List S} {gout : List (Nat × S)} {e : Fin} {res : S} (hle : Nat.ble args.length 21 = true)
    (hfin : finE (tabOf PP) gout Tryz.f127.results.toList args [] = some (outs, res)) (hg : Goes (EV PP 21 []) B127 (entry 0 args) e gout) (he : e = .normal ∨ e = .ret) : Den PP 127 args outs res :=
  den_tab (fn := Tryz.f127) (c := B127) (by kernel_rfl) (by kernel_rfl) (by kernel_rfl) (by kernel_rfl) hle hfin hg he
theorem trim_go (l : List Nat) (k k1 : Int)
    (h1 : (decide (k > (0:Int))) = true)
    (h2 : inR .i64 (k - (1:Int)))
    (h3 : idx l.length (k - (1:Int)))
    (h4 : (bif (decide (k > (0:Int))) then ((l.getD (Int.toNat (k - (1:Int))) 0 : Int) == (0:Int)) else false) = true)
    (h5 : (k - (1:Int)) = k1) :
    Goes (EV PP 21 []) (sub [true, true, false, false, false] B127) [(0, (W l)), (3, (num .i64 k))] .normal [(0, (W l)), (3, (num .i64 k1))] :=
  pathG [.r [.b true, .b true, .b true, .b true, .b true, .b true] [0, 3, 15], .t true, .r [] [0, 3, 15]] ((cc h1 (cc h1 (cc h1 (cc h2 (cc h1 (cc h3 (cc h1 (cc h1 (cc tt (cc h4 (cc h2 (cc (fq l.length 1 (wf l)) (cc h5 nn)))))))))))))) (by kernel_rfl)
theorem trim_stop (l : List Nat) (k : Int)
    (h1 : (decide (k > (0:Int))) = true)
    (h2 : inR .i64 (k - (1:Int)))
    (h3 : idx l.length (k - (1:Int)))
    (h4 : (bif (decide (k > (0:Int))) then ((l.getD (Int.toNat (k - (1:Int))) 0 : Int) == (0:Int)) else false) = false) :
    Goes (EV PP 21 []) (sub [true, true, false, false, false] B127) [(0, (W l)), (3, (num .i64 k))] (.exit 0) [(0, (W l)), (3, (num .i64 k))] :=
  pathG [.r [.b true, .b true, .b true, .b true, .b true, .b true] [0, 3, 15], .t false] ((cc h1 (cc h1 (cc h1 (cc h2 (cc h1 (cc h3 (cc h1 (cc h1 (cc tt (cc h4 (cc (fq l.length 1 (wf l)) (cc (er k) nn))))))))))))) (by kernel_rfl)
theorem trim_nil (l : List Nat) (k : Int)
    (h1 : (decide (k > (0:Int))) = false) :
    Goes (EV PP 21 []) (sub [true, true, false, false, false] B127) [(0, (W l)), (3, (num .i64 k))] (.exit 0) [(0, (W l)), (3, (num .i64 k))] :=
  pathG [.r [.b false, .b false, .b false, .b false, .b false, .b false] [0, 3, 15], .t false] ((cc h1 (cc h1 (cc h1 (cc h1 (cc h1 (cc h1 (cc h1 (cc (er false) (cc (fq l.length 1 (wf l)) (cc (er k) nn))))))))))) (by kernel_rfl)
theorem trim_all (l r : List Nat) (k : Int)
    (h1 : Loops (EV PP 21 []) (sub [true, true, false, false, false] B127) [(0, (W l)), (3, (num .i64 (l.length : Int)))] (.exit 0) [(0, (W l)), (3, (num .i64 k))])
    (h2 : 0 ≤ (0:Int) ∧ (0:Int) ≤ k ∧ k ≤ (l.length : Int))
    (h3 : ((Int.toNat k) - (Int.toNat (0:Int))) = r.length ∧ FEq ((Int.toNat k) - (Int.toNat (0:Int))) 1 (fun j => (wf l) ((Int.toNat (0:Int)) + j)) (wf r)) :
    Goes (EV PP 21 []) B127 [(0, (W l))] .ret [(2, (W r))] :=
  pathG [.r [] [0, 2], .r [] [0, 2, 3], .l [(0, (W l)), (3, (num .i64 (l.length : Int)))] (.exit 0) [(0, (W l)), (3, (num .i64 k))], .r [] [0, 2, 3]] ((cc (fq l.length 1 (wf l)) (cc (er (l.length : Int)) (cc h1 (cc h2 (cc h3 nn)))))) (by kernel_rfl)

/-- how long a list is without the noughts at its end -/
def tz (l : List Nat) : Nat → Nat
  | 0 => 0
  | k + 1 => if l.getD k 0 = 0 then tz l k else k + 1
def trimL (l : List Nat) : List Nat := l.take (tz l l.length)
theorem tz_le (l : List Nat) : ∀ k, tz l k ≤ k
  | 0 => Nat.le_refl _
  | k + 1 => by
    unfold tz
    split
    · exact Nat.le_succ_of_le (tz_le l k)
    · exact Nat.le_refl _
theorem i64_ok {n : Int} (h1 : -1 ≤ n) (h2 : n ≤ 4611686018427387904) : inR .i64 n := by
  show (-9223372036854775808 : Int) ≤ n ∧ n ≤ 9223372036854775807
  omega
theorem w_same (l : List Nat) : l.length = l.length ∧ FEq l.length 1 (wf l) (wf l) := ⟨rfl, FEq.refl _ _ _⟩
theorem trim_loop (l : List Nat) (hl : l.length ≤ 4294967296) : ∀ k, k ≤ l.length → Loops (EV PP 21 []) (sub [true, true, false, false, false] B127) [(0, W l), (3, num .i64 (k : Int))] (.exit 0) [(0, W l), (3, num .i64 (tz l k : Int))]
  | 0, _ => .leave (trim_nil l 0 (decide_eq_false (by omega))) (fun h => by cases h)
  | k + 1, hk => by
    have hd : decide (((k + 1 : Nat) : Int) > 0) = true := decide_eq_true (by omega)
    have he : Int.toNat (((k + 1 : Nat) : Int) - 1) = k := by omega
    by_cases h : l.getD k 0 = 0
    · have ht : tz l (k + 1) = tz l k := by simp only [tz, if_pos h]
      rw [ht]
      refine .again (trim_go l _ (k : Int) hd (i64_ok (by omega) (by omega)) ⟨by omega, by omega⟩ ?_ (by omega)) (trim_loop l hl k (by omega))
      rw [hd, he, h]; rfl
    · have ht : tz l (k + 1) = k + 1 := by simp only [tz, if_neg h]
      rw [ht]
      refine .leave (trim_stop l _ hd (i64_ok (by omega) (by omega)) ⟨by omega, by omega⟩ ?_) (fun h => by cases h)
      rw [hd, he]
      show ((l.getD k 0 : Int) == 0) = false
      rw [beq_eq_false_iff_ne]
      omega
theorem nat_trim (l : List Nat) (hl : l.length ≤ 4294967296) : Den PP 127 [W l] [W l] (W (trimL l)) := by
  have hz := tz_le l l.length
  have hlen : (trimL l).length = tz l l.length := by unfold trimL; rw [List.length_take]; omega
  refine D127 (gout := [(2, W (trimL l))]) (e := .ret) (by kernel_rfl) (by kernel_rfl) ?_ (.inr rfl)
  refine trim_all l (trimL l) (tz l l.length) (trim_loop l hl l.length (Nat.le_refl _)) ?_ ?_
  · exact ⟨by omega, by omega, by omega⟩
  · refine ⟨by omega, fun j i hj _ => ?_⟩
    show Value.int .u32 (l.getD (Int.toNat 0 + j) 0 : Int) = Value.int .u32 ((trimL l).getD j 0 : Int)
    have : (trimL l).getD j 0 = l.getD j 0 := by
      unfold trimL
      simp only [List.getD_eq_getElem?_getD]
      rw [List.getElem?_take_of_lt (by omega)]
    rw [this, show Int.toNat 0 + j = j by simp]
noncomputable def B208 : Code := codeOf Tryz.f208
theorem D208 {args outs : List S} {gout : List (Nat × S)} {e : Fin} {res : S} (hle : Nat.ble args.length 15 = true)
    (hfin : finE (tabOf PP) gout Tryz.f208.results.toList args [] = some (outs, res)) (hg : Goes (EV PP 15 []) B208 (entry 0 args) e gout) (he : e = .normal ∨ e = .ret) : Den PP 208 args outs res :=
  den_tab (fn := Tryz.f208) (c := B208) (by kernel_rfl) (by kernel_rfl) (by kernel_rfl) (by kernel_rfl) hle hfin hg he
theorem fresh_p (l r : List Nat) (m : Nat)
    (h1 : inR .i64 ((l.length : Int) + (m : Int)))
    (h2 : ((l.length : Int) + (m : Int)) = ((l.length : Int) + (m : Int)) ∧ 0 ≤ ((l.length : Int) + (m : Int)) ∧ ((l.length : Int) + (m : Int)) ≤ 140737488355328 ∧ ((l.length : Int) + (m : Int)) * 4 ≤ 140737488355328)
    (h3 : (Int.toNat ((l.length : Int) + (m : Int))) = r.length ∧ FEq (Int.toNat ((l.length : Int) + (m : Int))) 1 (cpyF l.length (wf l) (fun _ i => cellD ((([(.d (.v (.int .u32 (0:Int))))]).getD i nilC).plain))) (wf r)) :
    Goes (EV PP 15 []) B208 [(0, (W l)), (1, (num .i64 (m : Int)))] .ret [(4, (.ref ⟨5, 0, none⟩)), (5, (WO r))] :=
  pathG [.r [] [0, 1, 4], .r [] [0, 1, 4, 5], .r [] [0, 1, 4, 5], .r [] [0, 1, 4, 5]] ((cc h1 (cc h2 (cc tt (cc h3 nn))))) (by kernel_rfl)

theorem FEq.words {n : Nat} {f : Nat → Nat → D} {r : List Nat} (h : ∀ j, j < n → f j 0 = .v (.int .u32 (r.getD j 0 : Int))) : FEq n 1 f (wf r) := by
  intro j i hj hi
  have : i = 0 := by omega
  subst this
  rw [h j hj]
  exact D.eqv.refl _
theorem word_eq {a b : Nat} (h : a = b) : D.v (.int .u32 (a : Int)) = .v (.int .u32 (b : Int)) := by rw [h]
theorem nat_fresh (l : List Nat) (m : Nat) (hl : l.length ≤ 4294967296) (hm : m ≤ 4294967296) : Den PP 208 [W l, num .i64 (m : Int)] [W l, num .i64 (m : Int)] (WO (l ++ List.replicate m 0)) := by
  refine D208 (gout := [(4, .ref ⟨5, 0, none⟩), (5, WO (l ++ List.replicate m 0))]) (e := .ret) (by kernel_rfl) (by kernel_rfl) ?_ (.inr rfl)
  refine fresh_p l _ m (i64_ok (by omega) (by omega)) ⟨rfl, by omega, by omega, by omega⟩ ⟨by simp; omega, FEq.words fun j hj => ?_⟩
  by_cases h : j < l.length
  · rw [cpyF_lt h]
    refine word_eq ?_
    simp only [List.getD_eq_getElem?_getD, List.getElem?_append_left h]
  · rw [cpyF_ge (by omega)]
    refine (word_eq (a := 0) ?_)
    simp only [List.getD_eq_getElem?_getD]
    rw [List.getElem?_append_right (by omega), List.getElem?_replicate]
    split <;> rfl
noncomputable def B168 : Code := codeOf Tryz.f168
theorem D168 {args outs : List S} {gout : List (Nat × S)} {e : Fin} {res : S} (hle : Nat.ble args.length 6 = true)
    (hfin : finE (tabOf PP) gout Tryz.f168.results.toList args [] = some (outs, res)) (hg : Goes (EV PP 6 []) B168 (entry 0 args) e gout) (he : e = .normal ∨ e = .ret) : Den PP 168 args outs res :=
  den_tab (fn := Tryz.f168) (c := B168) (by kernel_rfl) (by kernel_rfl) (by kernel_rfl) (by kernel_rfl) hle hfin hg he
theorem norm_p (l r t : List Nat)
    (h1 : Den PP 127 [(W l)] [(W l)] (W t))
    (h2 : Den PP 208 [(W t), (num .i64 ((0 : Nat) : Int))] [(W t), (num .i64 ((0 : Nat) : Int))] (WO r)) :
    Goes (EV PP 6 []) B168 [(0, (W l))] .ret [(2, (WO r))] :=
  pathG [.r [] [0, 2], .r [.c [(W l)] [(W l)] (W t), .c [(W t), (num .i64 ((0 : Nat) : Int))] [(W t), (num .i64 ((0 : Nat) : Int))] (WO r)] [0, 2]] ((cc (fq l.length 1 (wf l)) (cc h1 (cc (fq t.length 1 (wf t)) (cc (er (0:Int)) (cc h2 (cc (fq r.length 1 (wf r)) nn))))))) (by kernel_rfl)

theorem trim_len (l : List Nat) : (trimL l).length ≤ l.length := by unfold trimL; rw [List.length_take]; omega
theorem nat_norm (l : List Nat) (hl : l.length ≤ 4294967296) : Den PP 168 [W l] [W l] (WO (trimL l)) := by
  refine D168 (gout := [(2, WO (trimL l))]) (e := .ret) (by kernel_rfl) (by kernel_rfl) ?_ (.inr rfl)
  have h := trim_len l
  have hf := nat_fresh (trimL l) 0 (by omega) (by omega)
  rw [List.replicate_zero, List.append_nil] at hf
  exact norm_p l (trimL l) (trimL l) (nat_trim l hl) hf
noncomputable def B128 : Code := codeOf Tryz.f128
theorem D128 {args outs : List S} {gout : List (Nat × S)} {e : Fin} {res : S} (hle : Nat.ble args.length 7 = true)
    (hfin : finE (tabOf PP) gout Tryz.f128.results.toList args [] = some (outs, res)) (hg : Goes (EV PP 7 []) B128 (entry 0 args) e gout) (he : e = .normal ∨ e = .ret) : Den PP 128 args outs res :=
  den_tab (fn := Tryz.f128) (c := B128) (by kernel_rfl) (by kernel_rfl) (by kernel_rfl) (by kernel_rfl) hle hfin hg he
theorem zero_p (l t : List Nat) (b : Bool)
    (h1 : Den PP 127 [(W l)] [(W l)] (W t))
    (h2 : ((t.length : Int) == (0:Int)) = b) :
    Goes (EV PP 7 []) B128 [(0, (W l))] .ret [(2, (bl b))] :=
  pathG [.r [] [0, 2], .r [.c [(W l)] [(W l)] (W t)] [0, 2]] ((cc (fq l.length 1 (wf l)) (cc h1 (cc h2 nn)))) (by kernel_rfl)

theorem nat_zero (l : List Nat) (hl : l.length ≤ 4294967296) : Den PP 128 [W l] [W l] (bl (trimL l).isEmpty) := by
  refine D128 (gout := [(2, bl (trimL l).isEmpty)]) (e := .ret) (by kernel_rfl) (by kernel_rfl) ?_ (.inr rfl)
  refine zero_p l (trimL l) _ (nat_trim l hl) ?_
  cases trimL l with
  | nil => rfl
  | cons a t => show (((t.length + 1 : Nat) : Int) == 0) = false; rw [beq_eq_false_iff_ne]; omega
noncomputable def B77 : Code := codeOf Tryz.f77
theorem D77 {args outs : List S} {gout : List (Nat × S)} {e : Fin} {res : S} (hle : Nat.ble args.length 10 = true)
    (hfin : finE (tabOf PP) gout Tryz.f77.results.toList args [] = some (outs, res)) (hg : Goes (EV PP 10 []) B77 (entry 0 args) e gout) (he : e = .normal ∨ e = .ret) : Den PP 77 args outs res :=
  den_tab (fn := Tryz.f77) (c := B77) (by kernel_rfl) (by kernel_rfl) (by kernel_rfl) (by kernel_rfl) hle hfin hg he
theorem of_p (n : Nat) (a t : List Nat)
    (h1 : 0 ≤ (32:Int))
    (h2 : 2 = a.length ∧ FEq 2 1 (rowF 1 [(.d (.v (.int .u32 (wr .u32 (n : Int))))), (.d (.v (.int .u32 (wr .u32 ((n : Int) / 2 ^ (min (Int.toNat (32:Int)) (IntKind.u64).bits))))))]) (wf a))
    (h3 : Den PP 127 [(W a)] [(W a)] (W t)) :
    Goes (EV PP 10 []) B77 [(0, (num .u64 (n : Int)))] .ret [(2, (W t))] :=
  pathG [.r [] [0, 2], .r [.c [(W a)] [(W a)] (W t)] [0, 2]] ((cc tt (cc h1 (cc tt (cc h2 (cc h3 (cc (fq t.length 1 (wf t)) nn))))))) (by kernel_rfl)

theorem nat_of (n : Nat) (hn : n < 18446744073709551616) : Den PP 77 [num .u64 (n : Int)] [num .u64 (n : Int)] (W (trimL [n % 4294967296, n / 4294967296])) := by
  refine D77 (gout := [(2, W (trimL [n % 4294967296, n / 4294967296]))]) (e := .ret) (by kernel_rfl) (by kernel_rfl) ?_ (.inr rfl)
  have hp : (2 : Int) ^ (min (Int.toNat (32:Int)) (IntKind.u64).bits) = 4294967296 := by decide
  refine of_p n [n % 4294967296, n / 4294967296] _ (by decide) ⟨rfl, FEq.words fun j hj => ?_⟩ (nat_trim _ (by simp))
  match j, hj with
  | 0, _ =>
    show D.v (.int .u32 (wr .u32 (n : Int))) = .v (.int .u32 ((n % 4294967296 : Nat) : Int))
    rw [wr32]; rfl
  | 1, _ =>
    show D.v (.int .u32 (wr .u32 ((n : Int) / 2 ^ (min (Int.toNat (32:Int)) (IntKind.u64).bits)))) = .v (.int .u32 ((n / 4294967296 : Nat) : Int))
    rw [hp, wr32, show ((n : Int) / 4294967296 % 4294967296) = ((n / 4294967296 : Nat) : Int) by omega]
  | j + 2, h => omega
end Go.X
namespace Go.X
open Go

def val : List Nat → Nat
  | [] => 0
  | a :: l => a + 4294967296 * val l
def Wd (l : List Nat) : Prop := ∀ x ∈ l, x < 4294967296
/-- the right words of a number -/
def wd (n : Nat) : List Nat := if h : n = 0 then [] else (n % 4294967296) :: wd (n / 4294967296)
termination_by n
decreasing_by exact Nat.div_lt_self (Nat.pos_of_ne_zero h) (by omega)

theorem wd_zero : wd 0 = [] := by rw [wd]; rfl
theorem wd_pos {n : Nat} (h : n ≠ 0) : wd n = (n % 4294967296) :: wd (n / 4294967296) := by rw [wd, dif_neg h]
theorem val_wd (n : Nat) : val (wd n) = n := by
  induction n using Nat.strongRecOn with
  | _ n ih =>
    by_cases h : n = 0
    · subst h; rw [wd_zero]; rfl
    · rw [wd_pos h, val, ih _ (Nat.div_lt_self (Nat.pos_of_ne_zero h) (by omega))]
      omega
theorem wd_Wd (n : Nat) : Wd (wd n) := by
  induction n using Nat.strongRecOn with
  | _ n ih =>
    by_cases h : n = 0
    · subst h; rw [wd_zero]; intro x hx; cases hx
    · rw [wd_pos h]
      intro x hx
      rcases List.mem_cons.1 hx with rfl | hx
      · exact Nat.mod_lt _ (by omega)
      · exact ih _ (Nat.div_lt_self (Nat.pos_of_ne_zero h) (by omega)) x hx
theorem Wd.tail {a : Nat} {l : List Nat} (h : Wd (a :: l)) : Wd l := fun x hx => h x (by simp [hx])
theorem Wd.head {a : Nat} {l : List Nat} (h : Wd (a :: l)) : a < 4294967296 := h a (by simp)
theorem Wd.append {l m : List Nat} (h : Wd l) (k : Wd m) : Wd (l ++ m) := fun x hx => (List.mem_append.1 hx).elim (h x) (k x)
theorem Wd.take {l : List Nat} (h : Wd l) (k : Nat) : Wd (l.take k) := fun x hx => h x (List.mem_of_mem_take hx)
theorem Wd.drop {l : List Nat} (h : Wd l) (k : Nat) : Wd (l.drop k) := fun x hx => h x (List.mem_of_mem_drop hx)
theorem Wd.getD {l : List Nat} (h : Wd l) (i : Nat) : l.getD i 0 < 4294967296 := by
  rw [List.getD_eq_getElem?_getD]
  cases hg : l[i]? with
  | none => exact (by decide : (0 : Nat) < 4294967296)
  | some x => exact h x (List.mem_of_getElem? hg)
theorem Wd.zeros (n : Nat) : Wd (List.replicate n 0) := fun x hx => by rw [(List.mem_replicate.1 hx).2]; decide

theorem val_append (l m : List Nat) : val (l ++ m) = val l + 4294967296 ^ l.length * val m := by
  induction l with
  | nil => simp [val]
  | cons a l ih =>
    simp only [List.cons_append, val, ih, List.length_cons, Nat.pow_succ, Nat.mul_add]
    rw [Nat.mul_comm (4294967296 ^ l.length) 4294967296, Nat.mul_assoc]
    omega
theorem val_zeros (n : Nat) : val (List.replicate n 0) = 0 := by
  induction n with
  | zero => rfl
  | succ n ih => simp [List.replicate_succ, val, ih]
theorem val_lt {l : List Nat} (h : Wd l) : val l < 4294967296 ^ l.length := by
  induction l with
  | nil => simp [val]
  | cons a l ih =>
    have h1 := ih h.tail
    have h2 := h.head
    simp only [val, List.length_cons, Nat.pow_succ]
    rw [Nat.mul_comm (4294967296 ^ l.length) 4294967296]
    omega
theorem val_take_succ (l : List Nat) (i : Nat) : val (l.take (i + 1)) = val (l.take i) + 4294967296 ^ i * l.getD i 0 := by
  by_cases h : i < l.length
  · rw [List.take_succ_eq_append_getElem h, val_append]
    simp only [List.length_take, Nat.min_eq_left (Nat.le_of_lt h), val, List.getD_eq_getElem?_getD, List.getElem?_eq_getElem h, Option.getD_some, Nat.mul_zero, Nat.add_zero]
  · rw [List.take_of_length_le (by omega), List.take_of_length_le (by omega), List.getD_eq_getElem?_getD, List.getElem?_eq_none (by omega)]
    simp
/-- a list without noughts at its end is the right one of its value -/
theorem wd_of {l : List Nat} (h : Wd l) (hl : l = [] ∨ l.getD (l.length - 1) 0 ≠ 0) : l = wd (val l) := by
  induction l with
  | nil => rw [val, wd_zero]
  | cons a l ih =>
    have ha := h.head
    have hlast : l = [] ∨ l.getD (l.length - 1) 0 ≠ 0 := by
      cases l with
      | nil => exact .inl rfl
      | cons b m =>
        right
        rcases hl with hl | hl
        · cases hl
        · simpa using hl
    have ih := ih h.tail hlast
    have hv : val (a :: l) ≠ 0 := by
      simp only [val]
      rcases hlast with rfl | hlast
      · rcases hl with hl | hl
        · cases hl
        · simp at hl; omega
      · have : val l ≠ 0 := by
          intro h0
          rw [h0, wd_zero] at ih
          rw [ih] at hlast
          simp at hlast
        omega
    rw [wd_pos hv]
    simp only [val]
    rw [show (a + 4294967296 * val l) % 4294967296 = a by omega, show (a + 4294967296 * val l) / 4294967296 = val l by omega, ← ih]
theorem tz_val (l : List Nat) : ∀ k, val (l.take (tz l k)) = val (l.take k)
  | 0 => rfl
  | k + 1 => by
    unfold tz
    split
    · rename_i h
      rw [tz_val l k, val_take_succ, h]; simp
    · rfl
theorem tz_last (l : List Nat) : ∀ k, tz l k = 0 ∨ l.getD (tz l k - 1) 0 ≠ 0
  | 0 => .inl rfl
  | k + 1 => by
    unfold tz
    split
    · exact tz_last l k
    · rename_i h; exact .inr (by simpa using h)
theorem trimL_eq {l : List Nat} (h : Wd l) : trimL l = wd (val l) := by
  have hz := tz_le l l.length
  have h1 : val (trimL l) = val l := by
    unfold trimL; rw [tz_val, List.take_length]
  rw [← h1]
  refine wd_of (h.take _) ?_
  rcases tz_last l l.length with h0 | h0
  · left; unfold trimL; rw [h0]; rfl
  · by_cases h00 : tz l l.length = 0
    · left; unfold trimL; rw [h00]; rfl
    · right
      have hlen : (trimL l).length = tz l l.length := by unfold trimL; rw [List.length_take]; omega
      rw [hlen]
      unfold trimL
      rw [List.getD_eq_getElem?_getD, List.getElem?_take_of_lt (by omega), ← List.getD_eq_getElem?_getD]
      exact h0
theorem wd_trim (n : Nat) : trimL (wd n) = wd n := by rw [trimL_eq (wd_Wd n), val_wd]
theorem wd_nil {n : Nat} : wd n = [] ↔ n = 0 := by
  constructor
  · intro h
    have := val_wd n
    rw [h] at this; exact this.symm
  · rintro rfl; exact wd_zero
theorem wd_inj {m n : Nat} (h : wd m = wd n) : m = n := by rw [← val_wd m, h, val_wd]
/-- how many words -/
theorem wd_len_le {n k : Nat} (h : n < 4294967296 ^ k) : (wd n).length ≤ k := by
  induction k generalizing n with
  | zero => simp at h; subst h; rw [wd_zero]; simp
  | succ k ih =>
    by_cases h0 : n = 0
    · subst h0; rw [wd_zero]; simp
    · rw [wd_pos h0, List.length_cons]
      have := ih (n := n / 4294967296) (by
        rw [Nat.div_lt_iff_lt_mul (by omega)]
        rw [Nat.pow_succ] at h; exact h)
      omega
theorem wd_len_lt (n : Nat) : n < 4294967296 ^ (wd n).length := by
  have := val_lt (wd_Wd n)
  rw [val_wd] at this; exact this
end Go.X
namespace Go.X
open Go Go.Proofs
noncomputable def B135 : Code := codeOf Tryz.f135
theorem D135 {args outs : List S} {gout : List (Nat × S)} {e : Fin} {res : S} (hle : Nat.ble args.length 49 = true)
    (hfin : finE (tabOf PP) gout Tryz.f135.results.toList args [] = some (outs, res)) (hg : Goes (EV PP 49 []) B135 (entry 0 args) e gout) (he : e = .normal ∨ e = .ret) : Den PP 135 args outs res :=
  den_tab (fn := Tryz.f135) (c := B135) (by kernel_rfl) (by kernel_rfl) (by kernel_rfl) (by kernel_rfl) hle hfin hg he
theorem cmp_short (a b x y : List Nat)
    (h1 : Den PP 127 [(W a)] [(W a)] (W x))
    (h2 : Den PP 127 [(W b)] [(W b)] (W y))
    (h3 : (decide ((x.length : Int) < (y.length : Int))) = true) :
    Goes (EV PP 49 []) B135 [(0, (W a)), (1, (W b))] .ret [(4, (num .i64 (-1)))] :=
  pathG [.r [] [0, 1, 4], .r [.c [(W a)] [(W a)] (W x), .c [(W b)] [(W b)] (W y)] [0, 1, 4], .r [] [0, 1, 4, 10], .t true, .r [] [0, 1, 4, 10]] ((cc (fq a.length 1 (wf a)) (cc h1 (cc (fq b.length 1 (wf b)) (cc h2 (cc h3 (cc (er (-1:Int)) nn))))))) (by kernel_rfl)
theorem cmp_longer (a b x y : List Nat)
    (h1 : Den PP 127 [(W a)] [(W a)] (W x))
    (h2 : Den PP 127 [(W b)] [(W b)] (W y))
    (h3 : (decide ((x.length : Int) < (y.length : Int))) = false)
    (h4 : (decide ((x.length : Int) > (y.length : Int))) = true) :
    Goes (EV PP 49 []) B135 [(0, (W a)), (1, (W b))] .ret [(4, (num .i64 1))] :=
  pathG [.r [] [0, 1, 4], .r [.c [(W a)] [(W a)] (W x), .c [(W b)] [(W b)] (W y)] [0, 1, 4], .r [] [0, 1, 4, 10], .t false, .r [] [0, 1, 4, 10, 16], .t true, .r [] [0, 1, 4, 10, 16]] ((cc (fq a.length 1 (wf a)) (cc h1 (cc (fq b.length 1 (wf b)) (cc h2 (cc h3 (cc h4 (cc (er (1:Int)) nn)))))))) (by kernel_rfl)
theorem cmp_ret (a b x y : List Nat) (k r : Int)
    (h1 : Den PP 127 [(W a)] [(W a)] (W x))
    (h2 : Den PP 127 [(W b)] [(W b)] (W y))
    (h3 : (decide ((x.length : Int) < (y.length : Int))) = false)
    (h4 : (decide ((x.length : Int) > (y.length : Int))) = false)
    (h5 : inR .i64 ((x.length : Int) - (1:Int)))
    (h6 : ((x.length : Int) - (1:Int)) = k)
    (h7 : Loops (EV PP 49 []) (sub [true, true, true, false, true, false, false] B135) [(0, (W x)), (1, (W y)), (5, (num .i64 k))] .ret [(4, (num .i64 r))]) :
    Goes (EV PP 49 []) B135 [(0, (W a)), (1, (W b))] .ret [(4, (num .i64 r))] :=
  pathG [.r [] [0, 1, 4], .r [.c [(W a)] [(W a)] (W x), .c [(W b)] [(W b)] (W y)] [0, 1, 4], .r [] [0, 1, 4, 10], .t false, .r [] [0, 1, 4, 10, 16], .t false, .r [] [0, 1, 4, 5, 10, 16], .l [(0, (W x)), (1, (W y)), (5, (num .i64 k))] .ret [(4, (num .i64 r))]] ((cc (fq a.length 1 (wf a)) (cc h1 (cc (fq b.length 1 (wf b)) (cc h2 (cc h3 (cc h4 (cc h5 (cc (fq x.length 1 (wf x)) (cc (fq y.length 1 (wf y)) (cc h6 (cc h7 (cc (er r) nn))))))))))))) (by kernel_rfl)
theorem cmp_eq (a b x y : List Nat) (k : Int)
    (h1 : Den PP 127 [(W a)] [(W a)] (W x))
    (h2 : Den PP 127 [(W b)] [(W b)] (W y))
    (h3 : (decide ((x.length : Int) < (y.length : Int))) = false)
    (h4 : (decide ((x.length : Int) > (y.length : Int))) = false)
    (h5 : inR .i64 ((x.length : Int) - (1:Int)))
    (h6 : ((x.length : Int) - (1:Int)) = k)
    (h7 : Loops (EV PP 49 []) (sub [true, true, true, false, true, false, false] B135) [(0, (W x)), (1, (W y)), (5, (num .i64 k))] (.exit 1) []) :
    Goes (EV PP 49 []) B135 [(0, (W a)), (1, (W b))] .ret [(4, (num .i64 0))] :=
  pathG [.r [] [0, 1, 4], .r [.c [(W a)] [(W a)] (W x), .c [(W b)] [(W b)] (W y)] [0, 1, 4], .r [] [0, 1, 4, 10], .t false, .r [] [0, 1, 4, 10, 16], .t false, .r [] [0, 1, 4, 5, 10, 16], .l [(0, (W x)), (1, (W y)), (5, (num .i64 k))] (.exit 1) [], .r [] [4]] ((cc (fq a.length 1 (wf a)) (cc h1 (cc (fq b.length 1 (wf b)) (cc h2 (cc h3 (cc h4 (cc h5 (cc (fq x.length 1 (wf x)) (cc (fq y.length 1 (wf y)) (cc h6 (cc h7 (cc (er (0:Int)) nn))))))))))))) (by kernel_rfl)
theorem cmpl_end (x y : List Nat) (k : Int)
    (h1 : (decide (k ≥ (0:Int))) = false) :
    Goes (EV PP 49 []) (sub [true, true, true, false, true, false, false] B135) [(0, (W x)), (1, (W y)), (5, (num .i64 k))] (.exit 1) [] :=
  pathG [.r [] [0, 1, 5, 26], .t false] ((cc h1 nn)) (by kernel_rfl)
theorem cmpl_lt (x y : List Nat) (k : Int)
    (h1 : (decide (k ≥ (0:Int))) = true)
    (h2 : idx x.length k)
    (h3 : idx y.length k)
    (h4 : (decide ((x.getD (Int.toNat k) 0 : Int) < (y.getD (Int.toNat k) 0 : Int))) = true) :
    Goes (EV PP 49 []) (sub [true, true, true, false, true, false, false] B135) [(0, (W x)), (1, (W y)), (5, (num .i64 k))] .ret [(4, (num .i64 (-1)))] :=
  pathG [.r [] [0, 1, 5, 26], .t true, .r [] [0, 1, 5, 26, 29], .t true, .r [] [0, 1, 4, 5, 26, 29]] ((cc h1 (cc h2 (cc h3 (cc h4 (cc (er (-1:Int)) nn)))))) (by kernel_rfl)
theorem cmpl_gt (x y : List Nat) (k : Int)
    (h1 : (decide (k ≥ (0:Int))) = true)
    (h2 : idx x.length k)
    (h3 : idx y.length k)
    (h4 : (decide ((x.getD (Int.toNat k) 0 : Int) < (y.getD (Int.toNat k) 0 : Int))) = false)
    (h5 : (decide ((x.getD (Int.toNat k) 0 : Int) > (y.getD (Int.toNat k) 0 : Int))) = true) :
    Goes (EV PP 49 []) (sub [true, true, true, false, true, false, false] B135) [(0, (W x)), (1, (W y)), (5, (num .i64 k))] .ret [(4, (num .i64 1))] :=
  pathG [.r [] [0, 1, 5, 26], .t true, .r [] [0, 1, 5, 26, 29], .t false, .r [] [0, 1, 5, 26, 29, 39], .t true, .r [] [0, 1, 4, 5, 26, 29, 39]] ((cc h1 (cc h2 (cc h3 (cc h4 (cc h2 (cc h3 (cc h5 (cc (er (1:Int)) nn))))))))) (by kernel_rfl)
theorem cmpl_go (x y : List Nat) (k k1 : Int)
    (h1 : (decide (k ≥ (0:Int))) = true)
    (h2 : idx x.length k)
    (h3 : idx y.length k)
    (h4 : (decide ((x.getD (Int.toNat k) 0 : Int) < (y.getD (Int.toNat k) 0 : Int))) = false)
    (h5 : (decide ((x.getD (Int.toNat k) 0 : Int) > (y.getD (Int.toNat k) 0 : Int))) = false)
    (h6 : inR .i64 (k - (1:Int)))
    (h7 : (k - (1:Int)) = k1) :
    Goes (EV PP 49 []) (sub [true, true, true, false, true, false, false] B135) [(0, (W x)), (1, (W y)), (5, (num .i64 k))] .normal [(0, (W x)), (1, (W y)), (5, (num .i64 k1))] :=
  pathG [.r [] [0, 1, 5, 26], .t true, .r [] [0, 1, 5, 26, 29], .t false, .r [] [0, 1, 5, 26, 29, 39], .t false, .r [] [0, 1, 5, 26, 29, 39]] ((cc h1 (cc h2 (cc h3 (cc h4 (cc h2 (cc h3 (cc h5 (cc h6 (cc (fq x.length 1 (wf x)) (cc (fq y.length 1 (wf y)) (cc h7 nn)))))))))))) (by kernel_rfl)

/-- the order of two lists of one length, from the highest word down -/
def lc (x y : List Nat) : Nat → Int
  | 0 => 0
  | k + 1 => if x.getD k 0 < y.getD k 0 then -1 else if y.getD k 0 < x.getD k 0 then 1 else lc x y k
def cmp3 (m n : Nat) : Int := if m < n then -1 else if n < m then 1 else 0
theorem lc_val {x y : List Nat} (hx : Wd x) (hy : Wd y) : ∀ k, lc x y k = cmp3 (val (x.take k)) (val (y.take k))
  | 0 => rfl
  | k + 1 => by
    have h1 := val_lt (hx.take k)
    have h2 := val_lt (hy.take k)
    have l1 : (x.take k).length ≤ k := List.length_take_le ..
    have l2 : (y.take k).length ≤ k := List.length_take_le ..
    have p1 : 4294967296 ^ (x.take k).length ≤ 4294967296 ^ k := Nat.pow_le_pow_right (by omega) l1
    have p2 : 4294967296 ^ (y.take k).length ≤ 4294967296 ^ k := Nat.pow_le_pow_right (by omega) l2
    rw [val_take_succ, val_take_succ]
    have ih := lc_val hx hy k
    unfold lc
    generalize val (x.take k) = a at *
    generalize val (y.take k) = b at *
    generalize x.getD k 0 = u at *
    generalize y.getD k 0 = v at *
    generalize 4294967296 ^ k = p at *
    unfold cmp3
    by_cases h : u < v
    · rw [if_pos h, if_pos]
      have : p * (u + 1) ≤ p * v := Nat.mul_le_mul_left p h
      rw [Nat.mul_succ] at this
      omega
    · rw [if_neg h]
      by_cases h' : v < u
      · have : p * (v + 1) ≤ p * u := Nat.mul_le_mul_left p h'
        rw [Nat.mul_succ] at this
        rw [if_pos h', if_neg (by omega), if_pos (by omega)]
      · have : u = v := by omega
        subst this
        rw [if_neg h', ih]
        unfold cmp3
        by_cases q1 : a < b
        · rw [if_pos q1, if_pos (show a + p * u < b + p * u by omega)]
        · rw [if_neg q1, if_neg (show ¬ (a + p * u < b + p * u) by omega)]
          by_cases q2 : b < a
          · rw [if_pos q2, if_pos (show b + p * u < a + p * u by omega)]
          · rw [if_neg q2, if_neg (show ¬ (b + p * u < a + p * u) by omega)]
theorem wd_len_ge {n : Nat} (h : n ≠ 0) : 4294967296 ^ ((wd n).length - 1) ≤ n := by
  induction n using Nat.strongRecOn with
  | _ n ih =>
    rw [wd_pos h, List.length_cons, Nat.add_sub_cancel]
    by_cases h0 : n / 4294967296 = 0
    · rw [h0, wd_zero]; simp; omega
    · have := ih _ (Nat.div_lt_self (Nat.pos_of_ne_zero h) (by omega)) h0
      have hl : (wd (n / 4294967296)).length ≠ 0 := fun hc => h0 (wd_nil.1 (List.eq_nil_of_length_eq_zero hc))
      have hp : 4294967296 ^ (wd (n / 4294967296)).length = 4294967296 ^ ((wd (n / 4294967296)).length - 1) * 4294967296 := by
        rw [← Nat.pow_succ]; congr 1; omega
      rw [hp]
      generalize 4294967296 ^ ((wd (n / 4294967296)).length - 1) = p at *
      omega
theorem len_lt {m n : Nat} (h : (wd m).length < (wd n).length) : m < n := by
  have hn : n ≠ 0 := by rintro rfl; rw [wd_zero] at h; cases h
  have h1 := wd_len_lt m
  have h2 := wd_len_ge hn
  have h3 : 4294967296 ^ (wd m).length ≤ 4294967296 ^ ((wd n).length - 1) := Nat.pow_le_pow_right (by omega) (by omega)
  omega
theorem cmp_loop (x y : List Nat) (hx : x.length ≤ 4294967296) (he : x.length = y.length) : ∀ j, j ≤ x.length →
    (lc x y j = 0 → Loops (EV PP 49 []) (sub [true, true, true, false, true, false, false] B135) [(0, W x), (1, W y), (5, num .i64 ((j : Int) - 1))] (.exit 1) []) ∧
    (lc x y j ≠ 0 → Loops (EV PP 49 []) (sub [true, true, true, false, true, false, false] B135) [(0, W x), (1, W y), (5, num .i64 ((j : Int) - 1))] .ret [(4, num .i64 (lc x y j))])
  | 0, _ => ⟨fun _ => .leave (cmpl_end x y _ (decide_eq_false (by omega))) (fun h => by cases h), fun h => absurd rfl h⟩
  | j + 1, hj => by
    have hd : decide (((j + 1 : Nat) : Int) - 1 ≥ 0) = true := decide_eq_true (by omega)
    have hn : Int.toNat (((j + 1 : Nat) : Int) - 1) = j := by omega
    have i1 : idx x.length (((j + 1 : Nat) : Int) - 1) := ⟨by omega, by omega⟩
    have i2 : idx y.length (((j + 1 : Nat) : Int) - 1) := ⟨by omega, by omega⟩
    obtain ⟨ih1, ih2⟩ := cmp_loop x y hx he j (by omega)
    unfold lc
    by_cases h1 : x.getD j 0 < y.getD j 0
    · rw [if_pos h1]
      exact ⟨fun h => (by cases h), fun _ => .leave (cmpl_lt x y _ hd i1 i2 (by rw [hn]; exact decide_eq_true (by omega))) (fun h => by cases h)⟩
    · rw [if_neg h1]
      by_cases h2 : y.getD j 0 < x.getD j 0
      · rw [if_pos h2]
        exact ⟨fun h => (by cases h), fun _ => .leave (cmpl_gt x y _ hd i1 i2 (by rw [hn]; exact decide_eq_false (by omega)) (by rw [hn]; exact decide_eq_true (by omega))) (fun h => by cases h)⟩
      · rw [if_neg h2]
        have go := cmpl_go x y (((j + 1 : Nat) : Int) - 1) ((j : Int) - 1) hd i1 i2 (by rw [hn]; exact decide_eq_false (by omega)) (by rw [hn]; exact decide_eq_false (by omega)) (i64_ok (by omega) (by omega)) (by omega)
        exact ⟨fun h => .again go (ih1 h), fun h => .again go (ih2 h)⟩
theorem nat_cmp (a b : List Nat) (ha : Wd a) (hb : Wd b) (la : a.length ≤ 4294967296) (lb : b.length ≤ 4294967296) :
    Den PP 135 [W a, W b] [W a, W b] (num .i64 (cmp3 (val a) (val b))) := by
  refine D135 (gout := [(4, num .i64 (cmp3 (val a) (val b)))]) (e := .ret) (by kernel_rfl) (by kernel_rfl) ?_ (.inr rfl)
  have ta := nat_trim a la
  have tb := nat_trim b lb
  have l1 := trim_len a
  have l2 := trim_len b
  rw [trimL_eq ha] at ta l1
  rw [trimL_eq hb] at tb l2
  generalize val a = m at *
  generalize val b = n at *
  by_cases h1 : (wd m).length < (wd n).length
  · rw [show cmp3 m n = -1 by unfold cmp3; rw [if_pos (len_lt h1)]]
    exact cmp_short a b (wd m) (wd n) ta tb (decide_eq_true (by omega))
  · by_cases h2 : (wd n).length < (wd m).length
    · have := len_lt h2
      rw [show cmp3 m n = 1 by unfold cmp3; rw [if_neg (by omega), if_pos this]]
      exact cmp_longer a b (wd m) (wd n) ta tb (decide_eq_false (by omega)) (decide_eq_true (by omega))
    · have he : (wd m).length = (wd n).length := by omega
      have hlc := lc_val (wd_Wd m) (wd_Wd n) (wd m).length
      rw [List.take_length, he, List.take_length, val_wd, val_wd] at hlc
      obtain ⟨c1, c2⟩ := cmp_loop (wd m) (wd n) (by omega) he (wd m).length (Nat.le_refl _)
      rw [← hlc, ← he]
      by_cases h0 : lc (wd m) (wd n) (wd m).length = 0
      · rw [h0]
        exact cmp_eq a b (wd m) (wd n) _ ta tb (decide_eq_false (by omega)) (decide_eq_false (by omega)) (i64_ok (by omega) (by omega)) rfl (c1 h0)
      · exact cmp_ret a b (wd m) (wd n) _ _ ta tb (decide_eq_false (by omega)) (decide_eq_false (by omega)) (i64_ok (by omega) (by omega)) rfl (c2 h0)
end Go.X
