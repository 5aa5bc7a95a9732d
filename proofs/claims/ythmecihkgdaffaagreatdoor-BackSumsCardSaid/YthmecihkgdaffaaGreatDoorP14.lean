/- Part 14 of the proof of BackSums: Paths and contracts. Paths and contracts. So many words of a number; lists that are changed at a place. How rows of lists and of fractions are told. Paths and contracts. No conditions but those that each theorem names. -/
import Derived.Test.YthmecihkgdaffaaGreatDoorP13
namespace Go.X
open Go Go.Proofs
noncomputable def B205 : Code := codeOf Tryz.f205
theorem D205 {args outs : List S} {gout : List (Nat × S)} {e : Fin} {res : S} (hle : Nat.ble args.length 52 = true)
    (hfin : finE (tabOf PP) gout Tryz.f205.results.toList args [] = some (outs, res)) (hg : Goes (EV PP 52 []) B205 (entry 0 args) e gout) (he : e = .normal ∨ e = .ret) : Den PP 205 args outs res :=
  den_tab (fn := Tryz.f205) (c := B205) (by kernel_rfl) (by kernel_rfl) (by kernel_rfl) (by kernel_rfl) hle hfin hg he
theorem plus_in (a b ou r : List Nat) (i c x y s k : Nat)
    (h1 : (decide (((i : Nat) : Int) < ((a.length : Nat) : Int))) = true)
    (h2 : (decide (((i : Nat) : Int) < (b.length : Int))) = true)
    (h3 : idx b.length ((i : Nat) : Int))
    (h4 : idx a.length ((i : Nat) : Int))
    (h5 : (a.getD (Int.toNat ((i : Nat) : Int)) 0 : Int) = ((x : Nat) : Int))
    (h6 : (b.getD (Int.toNat ((i : Nat) : Int)) 0 : Int) = ((y : Nat) : Int))
    (h7 : Den PP 249 [(u x), (u y), (u c)] [(u x), (u y), (u c)] (.tup [uc s, uc k]))
    (h8 : idx ou.length ((i : Nat) : Int))
    (h9 : inR .i64 (((i : Nat) : Int) + (1:Int)))
    (h10 : ou.length = r.length ∧ FEq ou.length 1 (updF (wf ou) (Int.toNat ((i : Nat) : Int)) 0 [(.d (.v (.int .u32 ((s : Nat) : Int))))]) (wf r))
    (h11 : (((i : Nat) : Int) + (1:Int)) = (((i + 1) : Nat) : Int)) :
    Goes (EV PP 52 []) (sub [true, true, true, true, false, true, false, false] B205) [(0, (W a)), (1, (W b)), (5, (WO ou)), (6, (u c)), (19, (num .i64 ((a.length : Nat) : Int))), (20, (num .i64 ((i : Nat) : Int)))] .normal [(0, (W a)), (1, (W b)), (5, (WO r)), (6, (u k)), (19, (num .i64 ((a.length : Nat) : Int))), (20, (num .i64 (((i + 1) : Nat) : Int)))] :=
  pathG [.r [] [0, 1, 5, 6, 19, 20, 21], .t true, .r [] [0, 1, 5, 6, 7, 19, 20, 21], .r [] [0, 1, 5, 6, 7, 8, 19, 20, 21], .r [] [0, 1, 5, 6, 7, 8, 19, 20, 21, 26], .t true, .r [] [0, 1, 5, 6, 7, 8, 19, 20, 21, 26], .r [.c [(u x), (u y), (u c)] [(u x), (u y), (u c)] (.tup [uc s, uc k])] [0, 1, 5, 6, 7, 8, 19, 20, 21, 26], .r [] [0, 1, 5, 6, 7, 8, 19, 20, 21, 26]] ((cc h1 (cc h2 (cc h3 (cc h4 (cc h5 (cc h6 (cc (er ((c : Nat) : Int)) (cc h7 (cc h8 (cc h9 (cc (fq a.length 1 (wf a)) (cc (fq b.length 1 (wf b)) (cc h10 (cc (er ((k : Nat) : Int)) (cc (er ((a.length : Nat) : Int)) (cc h11 nn))))))))))))))))) (by kernel_rfl)
theorem plus_out (a b ou r : List Nat) (i c x s k : Nat)
    (h1 : (decide (((i : Nat) : Int) < ((a.length : Nat) : Int))) = true)
    (h2 : (decide (((i : Nat) : Int) < (b.length : Int))) = false)
    (h3 : idx a.length ((i : Nat) : Int))
    (h4 : (a.getD (Int.toNat ((i : Nat) : Int)) 0 : Int) = ((x : Nat) : Int))
    (h5 : Den PP 249 [(u x), (u 0), (u c)] [(u x), (u 0), (u c)] (.tup [uc s, uc k]))
    (h6 : idx ou.length ((i : Nat) : Int))
    (h7 : inR .i64 (((i : Nat) : Int) + (1:Int)))
    (h8 : ou.length = r.length ∧ FEq ou.length 1 (updF (wf ou) (Int.toNat ((i : Nat) : Int)) 0 [(.d (.v (.int .u32 ((s : Nat) : Int))))]) (wf r))
    (h9 : (((i : Nat) : Int) + (1:Int)) = (((i + 1) : Nat) : Int)) :
    Goes (EV PP 52 []) (sub [true, true, true, true, false, true, false, false] B205) [(0, (W a)), (1, (W b)), (5, (WO ou)), (6, (u c)), (19, (num .i64 ((a.length : Nat) : Int))), (20, (num .i64 ((i : Nat) : Int)))] .normal [(0, (W a)), (1, (W b)), (5, (WO r)), (6, (u k)), (19, (num .i64 ((a.length : Nat) : Int))), (20, (num .i64 (((i + 1) : Nat) : Int)))] :=
  pathG [.r [] [0, 1, 5, 6, 19, 20, 21], .t true, .r [] [0, 1, 5, 6, 7, 19, 20, 21], .r [] [0, 1, 5, 6, 7, 8, 19, 20, 21], .r [] [0, 1, 5, 6, 7, 8, 19, 20, 21, 26], .t false, .r [.c [(u x), (u 0), (u c)] [(u x), (u 0), (u c)] (.tup [uc s, uc k])] [0, 1, 5, 6, 7, 8, 19, 20, 21, 26], .r [] [0, 1, 5, 6, 7, 8, 19, 20, 21, 26]] ((cc h1 (cc h2 (cc h3 (cc h4 (cc (er (0:Int)) (cc (er ((c : Nat) : Int)) (cc h5 (cc h6 (cc h7 (cc (fq a.length 1 (wf a)) (cc (fq b.length 1 (wf b)) (cc h8 (cc (er ((k : Nat) : Int)) (cc (er ((a.length : Nat) : Int)) (cc h9 nn)))))))))))))))) (by kernel_rfl)
theorem plus_end (a b ou : List Nat) (i c : Nat)
    (h1 : (decide (((i : Nat) : Int) < ((a.length : Nat) : Int))) = false) :
    Goes (EV PP 52 []) (sub [true, true, true, true, false, true, false, false] B205) [(0, (W a)), (1, (W b)), (5, (WO ou)), (6, (u c)), (19, (num .i64 ((a.length : Nat) : Int))), (20, (num .i64 ((i : Nat) : Int)))] (.exit 0) [(0, (W a)), (1, (W b)), (5, (WO ou)), (6, (u c)), (19, (num .i64 ((a.length : Nat) : Int))), (20, (num .i64 ((i : Nat) : Int)))] :=
  pathG [.r [] [0, 1, 5, 6, 19, 20, 21], .t false] ((cc h1 (cc (fq a.length 1 (wf a)) (cc (fq b.length 1 (wf b)) (cc (fq ou.length 1 (wf ou)) (cc (er ((c : Nat) : Int)) (cc (er ((a.length : Nat) : Int)) (cc (er ((i : Nat) : Int)) nn)))))))) (by kernel_rfl)
theorem plus_swap (a b f g h r : List Nat) (c : Nat)
    (h1 : (decide ((a.length : Int) < (b.length : Int))) = true)
    (h2 : Den PP 208 [(W b), (num .i64 ((1 : Nat) : Int))] [(W b), (num .i64 ((1 : Nat) : Int))] (WO f))
    (h3 : Loops (EV PP 52 []) (sub [true, true, true, true, false, true, false, false] B205) [(0, (W b)), (1, (W a)), (5, (WO f)), (6, (u 0)), (19, (num .i64 ((b.length : Nat) : Int))), (20, (num .i64 ((0 : Nat) : Int)))] (.exit 0) [(0, (W b)), (1, (W a)), (5, (WO g)), (6, (u c)), (19, (num .i64 ((b.length : Nat) : Int))), (20, (num .i64 ((b.length : Nat) : Int)))])
    (h4 : idx g.length (b.length : Int))
    (h5 : g.length = h.length ∧ FEq g.length 1 (updF (wf g) (Int.toNat (b.length : Int)) 0 [(.d (.v (.int .u32 ((c : Nat) : Int))))]) (wf h))
    (h6 : Den PP 127 [(W h)] [(W h)] (W r)) :
    Goes (EV PP 52 []) B205 [(0, (W a)), (1, (W b))] .ret [(4, (W r))] :=
  pathG [.r [] [0, 1, 4], .r [] [0, 1, 4, 13], .t true, .r [] [0, 1, 4, 13], .r [.c [(W b), (num .i64 ((1 : Nat) : Int))] [(W b), (num .i64 ((1 : Nat) : Int))] (WO f)] [0, 1, 4, 5, 13], .r [] [0, 1, 4, 5, 6, 13], .r [] [0, 1, 4, 5, 6, 13, 19, 20], .l [(0, (W b)), (1, (W a)), (5, (WO f)), (6, (u 0)), (19, (num .i64 ((b.length : Nat) : Int))), (20, (num .i64 ((0 : Nat) : Int)))] (.exit 0) [(0, (W b)), (1, (W a)), (5, (WO g)), (6, (u c)), (19, (num .i64 ((b.length : Nat) : Int))), (20, (num .i64 ((b.length : Nat) : Int)))], .r [] [0, 1, 5, 6, 19, 20], .u [(5, (WO h))], .f 5, .r [.c [(W h)] [(W h)] (W r)] [4, 5]] ((cc h1 (cc (fq b.length 1 (wf b)) (cc (er (1:Int)) (cc h2 (cc (fq b.length 1 (wf b)) (cc (fq a.length 1 (wf a)) (cc (fq f.length 1 (wf f)) (cc (er (0:Int)) (cc (er (b.length : Int)) (cc (er (0:Int)) (cc h3 (cc h4 (cc h5 (cc (fq h.length 1 (wf h)) (cc h6 (cc (fq r.length 1 (wf r)) nn))))))))))))))))) (by kernel_rfl)
theorem plus_keep (a b f g h r : List Nat) (c : Nat)
    (h1 : (decide ((a.length : Int) < (b.length : Int))) = false)
    (h2 : Den PP 208 [(W a), (num .i64 ((1 : Nat) : Int))] [(W a), (num .i64 ((1 : Nat) : Int))] (WO f))
    (h3 : Loops (EV PP 52 []) (sub [true, true, true, true, false, true, false, false] B205) [(0, (W a)), (1, (W b)), (5, (WO f)), (6, (u 0)), (19, (num .i64 ((a.length : Nat) : Int))), (20, (num .i64 ((0 : Nat) : Int)))] (.exit 0) [(0, (W a)), (1, (W b)), (5, (WO g)), (6, (u c)), (19, (num .i64 ((a.length : Nat) : Int))), (20, (num .i64 ((a.length : Nat) : Int)))])
    (h4 : idx g.length (a.length : Int))
    (h5 : g.length = h.length ∧ FEq g.length 1 (updF (wf g) (Int.toNat (a.length : Int)) 0 [(.d (.v (.int .u32 ((c : Nat) : Int))))]) (wf h))
    (h6 : Den PP 127 [(W h)] [(W h)] (W r)) :
    Goes (EV PP 52 []) B205 [(0, (W a)), (1, (W b))] .ret [(4, (W r))] :=
  pathG [.r [] [0, 1, 4], .r [] [0, 1, 4, 13], .t false, .r [.c [(W a), (num .i64 ((1 : Nat) : Int))] [(W a), (num .i64 ((1 : Nat) : Int))] (WO f)] [0, 1, 4, 5, 13], .r [] [0, 1, 4, 5, 6, 13], .r [] [0, 1, 4, 5, 6, 13, 19, 20], .l [(0, (W a)), (1, (W b)), (5, (WO f)), (6, (u 0)), (19, (num .i64 ((a.length : Nat) : Int))), (20, (num .i64 ((0 : Nat) : Int)))] (.exit 0) [(0, (W a)), (1, (W b)), (5, (WO g)), (6, (u c)), (19, (num .i64 ((a.length : Nat) : Int))), (20, (num .i64 ((a.length : Nat) : Int)))], .r [] [0, 1, 5, 6, 19, 20], .u [(5, (WO h))], .f 5, .r [.c [(W h)] [(W h)] (W r)] [4, 5]] ((cc h1 (cc (fq a.length 1 (wf a)) (cc (er (1:Int)) (cc h2 (cc (fq a.length 1 (wf a)) (cc (fq b.length 1 (wf b)) (cc (fq f.length 1 (wf f)) (cc (er (0:Int)) (cc (er (a.length : Int)) (cc (er (0:Int)) (cc h3 (cc h4 (cc h5 (cc (fq h.length 1 (wf h)) (cc h6 (cc (fq r.length 1 (wf r)) nn))))))))))))))))) (by kernel_rfl)

theorem getD_set (o : List Nat) (i j x : Nat) (h : i < o.length) : (o.set i x).getD j 0 = if j = i then x else o.getD j 0 := by
  simp only [List.getD_eq_getElem?_getD, List.getElem?_set]
  by_cases hij : i = j
  · subst hij; simp [h]
  · simp [hij, Ne.symm hij]
theorem FEq.set (o : List Nat) (i x : Nat) (h : i < o.length) : o.length = (o.set i x).length ∧ FEq o.length 1 (updF (wf o) i 0 [.d (.v (.int .u32 (x : Int)))]) (wf (o.set i x)) := by
  refine ⟨by simp, FEq.words fun j hj => ?_⟩
  unfold updF
  rw [getD_set o i j x h]
  by_cases hji : j = i
  · rw [if_pos ⟨hji, by omega, by simp⟩, if_pos hji]; rfl
  · rw [if_neg (fun h => hji h.1), if_neg hji]; rfl
theorem val_set_take (o : List Nat) (i x : Nat) (h : i < o.length) : val ((o.set i x).take (i + 1)) = val (o.take i) + 4294967296 ^ i * x := by
  rw [val_take_succ, getD_set o i i x h, if_pos rfl]
  rw [List.take_set_of_le (by omega)]
theorem Wd.set_take {o : List Nat} {i x : Nat} (h : Wd (o.take i)) (hx : x < 4294967296) : Wd ((o.set i x).take (i + 1)) := by
  intro y hy
  by_cases hi : i < o.length
  · rw [List.take_succ_eq_append_getElem (by simpa using hi), List.take_set_of_le (by omega)] at hy
    rcases List.mem_append.1 hy with hy | hy
    · exact h y hy
    · simp at hy; omega
  · rw [List.set_eq_of_length_le (by omega), List.take_of_length_le (by omega)] at hy
    rw [List.take_of_length_le (by omega)] at h
    exact h y hy
theorem plus_loop (a b : List Nat) (ha : Wd a) (hb : Wd b) (la : a.length ≤ 4294967296) (lb : b.length ≤ a.length) : ∀ (j i c : Nat) (ou : List Nat), i + j = a.length → ou.length = a.length + 1 → c ≤ 1 → Wd (ou.take i) →
    val (ou.take i) + 4294967296 ^ i * c = val (a.take i) + val (b.take i) →
    ∃ g c', Loops (EV PP 52 []) (sub [true, true, true, true, false, true, false, false] B205) [(0, W a), (1, W b), (5, WO ou), (6, u c), (19, num .i64 (a.length : Int)), (20, num .i64 (i : Int))] (.exit 0) [(0, W a), (1, W b), (5, WO g), (6, u c'), (19, num .i64 (a.length : Int)), (20, num .i64 (a.length : Int))] ∧
      g.length = a.length + 1 ∧ c' ≤ 1 ∧ Wd (g.take a.length) ∧ val (g.take a.length) + 4294967296 ^ a.length * c' = val a + val b
  | 0, i, c, ou, hi, ho, hc, hw, hv => by
    have : i = a.length := by omega
    subst this
    refine ⟨ou, c, .leave (plus_end a b ou _ c (decide_eq_false (by omega))) (fun h => by cases h), ho, hc, hw, ?_⟩
    rw [hv, List.take_length, List.take_of_length_le lb]
  | j + 1, i, c, ou, hi, ho, hc, hw, hv => by
    have hx := ha.getD i
    have hy := hb.getD i
    have ht : Int.toNat (i : Int) = i := by omega
    let x := a.getD i 0
    let y := b.getD i 0
    have hlo : i < ou.length := by omega
    have hset := FEq.set ou i ((x + y + c) % 4294967296) hlo
    have hv' : val ((ou.set i ((x + y + c) % 4294967296)).take (i + 1)) + 4294967296 ^ (i + 1) * ((x + y + c) / 4294967296) = val (a.take (i + 1)) + val (b.take (i + 1)) := by
      rw [val_set_take _ _ _ hlo, val_take_succ, val_take_succ]
      have : 4294967296 ^ (i + 1) * ((x + y + c) / 4294967296) + 4294967296 ^ i * ((x + y + c) % 4294967296) = 4294967296 ^ i * x + 4294967296 ^ i * y + 4294967296 ^ i * c := by
        rw [Nat.pow_succ, Nat.mul_assoc, ← Nat.mul_add, Nat.div_add_mod, Nat.mul_add, Nat.mul_add]
      show _ = val (a.take i) + 4294967296 ^ i * x + (val (b.take i) + 4294967296 ^ i * y)
      omega
    have go : Goes (EV PP 52 []) (sub [true, true, true, true, false, true, false, false] B205) [(0, W a), (1, W b), (5, WO ou), (6, u c), (19, num .i64 (a.length : Int)), (20, num .i64 (i : Int))] .normal [(0, W a), (1, W b), (5, WO (ou.set i ((x + y + c) % 4294967296))), (6, u ((x + y + c) / 4294967296)), (19, num .i64 (a.length : Int)), (20, num .i64 ((i + 1 : Nat) : Int))] := by
      have hd : decide ((i : Int) < (a.length : Int)) = true := decide_eq_true (by omega)
      by_cases hib : i < b.length
      · exact plus_in a b ou _ i c x y _ _ hd (decide_eq_true (by omega)) ⟨by omega, by omega⟩ ⟨by omega, by omega⟩ (by rw [ht]) (by rw [ht]) (limb_add x y c hx hy (by omega)) ⟨by omega, by omega⟩ (i64_ok (by omega) (by omega)) (by rw [ht]; exact hset) (by omega)
      · have hy0 : y = 0 := by show b.getD i 0 = 0; rw [List.getD_eq_getElem?_getD, List.getElem?_eq_none (by omega)]; rfl
        have := limb_add x 0 c hx (by omega) (by omega)
        rw [← hy0] at this
        refine plus_out a b ou _ i c x _ _ hd (decide_eq_false (by omega)) ⟨by omega, by omega⟩ (by rw [ht]) ?_ ⟨by omega, by omega⟩ (i64_ok (by omega) (by omega)) (by rw [ht]; exact hset) (by omega)
        rw [hy0] at this ⊢; exact this
    obtain ⟨g, c', h1, h2⟩ := plus_loop a b ha hb la lb j (i + 1) ((x + y + c) / 4294967296) (ou.set i ((x + y + c) % 4294967296)) (by omega) (by simpa using ho) (by omega) (hw.set_take (Nat.mod_lt _ (by omega))) hv'
    exact ⟨g, c', .again go h1, h2⟩

theorem plus_fin (a g : List Nat) (b c : Nat) (hg : g.length = a.length + 1) (hw : Wd (g.take a.length)) (hc : c ≤ 1) (hv : val (g.take a.length) + 4294967296 ^ a.length * c = val a + b) :
    Wd (g.set a.length c) ∧ val (g.set a.length c) = val a + b := by
  have hl : (g.set a.length c).take (a.length + 1) = g.set a.length c := List.take_of_length_le (by simp; omega)
  constructor
  · rw [← hl]; exact hw.set_take (by omega)
  · rw [← hl, val_set_take _ _ _ (by omega)]; exact hv
theorem nat_plus (a b : List Nat) (ha : Wd a) (hb : Wd b) (la : a.length ≤ 2147483648) (lb : b.length ≤ 2147483648) :
    Den PP 205 [W a, W b] [W a, W b] (W (wd (val a + val b))) := by
  refine D205 (gout := [(4, W (wd (val a + val b)))]) (e := .ret) (by kernel_rfl) (by kernel_rfl) ?_ (.inr rfl)
  by_cases h : a.length < b.length
  · obtain ⟨g, c, h1, h2, h3, h4, h5⟩ := plus_loop b a hb ha (by omega) (by omega) b.length 0 0 (b ++ List.replicate 1 0) (by omega) (by simp) (by omega) (fun x hx => by simp at hx) rfl
    obtain ⟨w1, v1⟩ := plus_fin b g (val a) c h2 h4 h3 h5
    have ht := nat_trim (g.set b.length c) (by simp; omega)
    rw [trimL_eq w1, v1, Nat.add_comm (val b)] at ht
    have hs := FEq.set g b.length c (by omega)
    refine plus_swap a b (b ++ List.replicate 1 0) g (g.set b.length c) _ c (decide_eq_true (by omega)) (nat_fresh b 1 (by omega) (by omega)) h1 ⟨by omega, by omega⟩ ?_ ht
    rw [show Int.toNat (b.length : Int) = b.length by omega]; exact hs
  · obtain ⟨g, c, h1, h2, h3, h4, h5⟩ := plus_loop a b ha hb (by omega) (by omega) a.length 0 0 (a ++ List.replicate 1 0) (by omega) (by simp) (by omega) (fun x hx => by simp at hx) rfl
    obtain ⟨w1, v1⟩ := plus_fin a g (val b) c h2 h4 h3 h5
    have ht := nat_trim (g.set a.length c) (by simp; omega)
    rw [trimL_eq w1, v1] at ht
    have hs := FEq.set g a.length c (by omega)
    refine plus_keep a b (a ++ List.replicate 1 0) g (g.set a.length c) _ c (decide_eq_false (by omega)) (nat_fresh a 1 (by omega) (by omega)) h1 ⟨by omega, by omega⟩ ?_ ht
    rw [show Int.toNat (a.length : Int) = a.length by omega]; exact hs
end Go.X
namespace Go.X
open Go Go.Proofs
noncomputable def B206 : Code := codeOf Tryz.f206
theorem D206 {args outs : List S} {gout : List (Nat × S)} {e : Fin} {res : S} (hle : Nat.ble args.length 49 = true)
    (hfin : finE (tabOf PP) gout Tryz.f206.results.toList args [] = some (outs, res)) (hg : Goes (EV PP 49 []) B206 (entry 0 args) e gout) (he : e = .normal ∨ e = .ret) : Den PP 206 args outs res :=
  den_tab (fn := Tryz.f206) (c := B206) (by kernel_rfl) (by kernel_rfl) (by kernel_rfl) (by kernel_rfl) hle hfin hg he
theorem sub_in (a b ou r : List Nat) (i c x y s k : Nat)
    (h1 : (decide (((i : Nat) : Int) < ((a.length : Nat) : Int))) = true)
    (h2 : (decide (((i : Nat) : Int) < (b.length : Int))) = true)
    (h3 : idx b.length ((i : Nat) : Int))
    (h4 : idx a.length ((i : Nat) : Int))
    (h5 : (a.getD (Int.toNat ((i : Nat) : Int)) 0 : Int) = ((x : Nat) : Int))
    (h6 : (b.getD (Int.toNat ((i : Nat) : Int)) 0 : Int) = ((y : Nat) : Int))
    (h7 : Den PP 250 [(u x), (u y), (u c)] [(u x), (u y), (u c)] (.tup [uc s, uc k]))
    (h8 : idx ou.length ((i : Nat) : Int))
    (h9 : inR .i64 (((i : Nat) : Int) + (1:Int)))
    (h10 : ou.length = r.length ∧ FEq ou.length 1 (updF (wf ou) (Int.toNat ((i : Nat) : Int)) 0 [(.d (.v (.int .u32 ((s : Nat) : Int))))]) (wf r))
    (h11 : (((i : Nat) : Int) + (1:Int)) = (((i + 1) : Nat) : Int)) :
    Goes (EV PP 49 []) (sub [true, true, true, true, true, false, true, false, false] B206) [(0, (W a)), (1, (W b)), (6, (WO ou)), (7, (u c)), (21, (num .i64 ((a.length : Nat) : Int))), (22, (num .i64 ((i : Nat) : Int)))] .normal [(0, (W a)), (1, (W b)), (6, (WO r)), (7, (u k)), (21, (num .i64 ((a.length : Nat) : Int))), (22, (num .i64 (((i + 1) : Nat) : Int)))] :=
  pathG [.r [] [0, 1, 6, 7, 21, 22, 23], .t true, .r [] [0, 1, 6, 7, 8, 21, 22, 23], .r [] [0, 1, 6, 7, 8, 9, 21, 22, 23], .r [] [0, 1, 6, 7, 8, 9, 21, 22, 23, 28], .t true, .r [] [0, 1, 6, 7, 8, 9, 21, 22, 23, 28], .r [.c [(u x), (u y), (u c)] [(u x), (u y), (u c)] (.tup [uc s, uc k])] [0, 1, 6, 7, 8, 9, 21, 22, 23, 28], .r [] [0, 1, 6, 7, 8, 9, 21, 22, 23, 28]] ((cc h1 (cc h2 (cc h3 (cc h4 (cc h5 (cc h6 (cc (er ((c : Nat) : Int)) (cc h7 (cc h8 (cc h9 (cc (fq a.length 1 (wf a)) (cc (fq b.length 1 (wf b)) (cc h10 (cc (er ((k : Nat) : Int)) (cc (er ((a.length : Nat) : Int)) (cc h11 nn))))))))))))))))) (by kernel_rfl)
theorem sub_out (a b ou r : List Nat) (i c x s k : Nat)
    (h1 : (decide (((i : Nat) : Int) < ((a.length : Nat) : Int))) = true)
    (h2 : (decide (((i : Nat) : Int) < (b.length : Int))) = false)
    (h3 : idx a.length ((i : Nat) : Int))
    (h4 : (a.getD (Int.toNat ((i : Nat) : Int)) 0 : Int) = ((x : Nat) : Int))
    (h5 : Den PP 250 [(u x), (u 0), (u c)] [(u x), (u 0), (u c)] (.tup [uc s, uc k]))
    (h6 : idx ou.length ((i : Nat) : Int))
    (h7 : inR .i64 (((i : Nat) : Int) + (1:Int)))
    (h8 : ou.length = r.length ∧ FEq ou.length 1 (updF (wf ou) (Int.toNat ((i : Nat) : Int)) 0 [(.d (.v (.int .u32 ((s : Nat) : Int))))]) (wf r))
    (h9 : (((i : Nat) : Int) + (1:Int)) = (((i + 1) : Nat) : Int)) :
    Goes (EV PP 49 []) (sub [true, true, true, true, true, false, true, false, false] B206) [(0, (W a)), (1, (W b)), (6, (WO ou)), (7, (u c)), (21, (num .i64 ((a.length : Nat) : Int))), (22, (num .i64 ((i : Nat) : Int)))] .normal [(0, (W a)), (1, (W b)), (6, (WO r)), (7, (u k)), (21, (num .i64 ((a.length : Nat) : Int))), (22, (num .i64 (((i + 1) : Nat) : Int)))] :=
  pathG [.r [] [0, 1, 6, 7, 21, 22, 23], .t true, .r [] [0, 1, 6, 7, 8, 21, 22, 23], .r [] [0, 1, 6, 7, 8, 9, 21, 22, 23], .r [] [0, 1, 6, 7, 8, 9, 21, 22, 23, 28], .t false, .r [.c [(u x), (u 0), (u c)] [(u x), (u 0), (u c)] (.tup [uc s, uc k])] [0, 1, 6, 7, 8, 9, 21, 22, 23, 28], .r [] [0, 1, 6, 7, 8, 9, 21, 22, 23, 28]] ((cc h1 (cc h2 (cc h3 (cc h4 (cc (er (0:Int)) (cc (er ((c : Nat) : Int)) (cc h5 (cc h6 (cc h7 (cc (fq a.length 1 (wf a)) (cc (fq b.length 1 (wf b)) (cc h8 (cc (er ((k : Nat) : Int)) (cc (er ((a.length : Nat) : Int)) (cc h9 nn)))))))))))))))) (by kernel_rfl)
theorem sub_end (a b ou : List Nat) (i c : Nat)
    (h1 : (decide (((i : Nat) : Int) < ((a.length : Nat) : Int))) = false) :
    Goes (EV PP 49 []) (sub [true, true, true, true, true, false, true, false, false] B206) [(0, (W a)), (1, (W b)), (6, (WO ou)), (7, (u c)), (21, (num .i64 ((a.length : Nat) : Int))), (22, (num .i64 ((i : Nat) : Int)))] (.exit 0) [(0, (W a)), (1, (W b)), (6, (WO ou)), (7, (u c)), (21, (num .i64 ((a.length : Nat) : Int))), (22, (num .i64 ((i : Nat) : Int)))] :=
  pathG [.r [] [0, 1, 6, 7, 21, 22, 23], .t false] ((cc h1 (cc (fq a.length 1 (wf a)) (cc (fq b.length 1 (wf b)) (cc (fq ou.length 1 (wf ou)) (cc (er ((c : Nat) : Int)) (cc (er ((a.length : Nat) : Int)) (cc (er ((i : Nat) : Int)) nn)))))))) (by kernel_rfl)
theorem sub_no (a b x y : List Nat) (q : Int)
    (h1 : Den PP 127 [(W a)] [(W a)] (W x))
    (h2 : Den PP 127 [(W b)] [(W b)] (W y))
    (h3 : Den PP 135 [(W x), (W y)] [(W x), (W y)] (num .i64 q))
    (h4 : (decide (q < (0:Int))) = true)
    (h5 : ([] : List Nat).length = 0) :
    Goes (EV PP 49 []) B206 [(0, (W a)), (1, (W b))] .ret [(4, (W ([] : List Nat))), (5, (bl false))] :=
  pathG [.r [] [0, 1, 4, 5], .r [.c [(W a)] [(W a)] (W x), .c [(W b)] [(W b)] (W y)] [0, 1, 4, 5], .r [.c [(W x), (W y)] [(W x), (W y)] (num .i64 q)] [0, 1, 4, 5, 17], .t true, .r [] [0, 1, 4, 5, 17]] ((cc (fq a.length 1 (wf a)) (cc h1 (cc (fq b.length 1 (wf b)) (cc h2 (cc (fq x.length 1 (wf x)) (cc (fq y.length 1 (wf y)) (cc h3 (cc h4 (cc h5 (cc (er false) nn))))))))))) (by kernel_rfl)
theorem sub_yes (a b x y f g r : List Nat) (q : Int) (c : Nat)
    (h1 : Den PP 127 [(W a)] [(W a)] (W x))
    (h2 : Den PP 127 [(W b)] [(W b)] (W y))
    (h3 : Den PP 135 [(W x), (W y)] [(W x), (W y)] (num .i64 q))
    (h4 : (decide (q < (0:Int))) = false)
    (h5 : Den PP 208 [(W x), (num .i64 ((0 : Nat) : Int))] [(W x), (num .i64 ((0 : Nat) : Int))] (WO f))
    (h6 : Loops (EV PP 49 []) (sub [true, true, true, true, true, false, true, false, false] B206) [(0, (W x)), (1, (W y)), (6, (WO f)), (7, (u 0)), (21, (num .i64 ((x.length : Nat) : Int))), (22, (num .i64 ((0 : Nat) : Int)))] (.exit 0) [(0, (W x)), (1, (W y)), (6, (WO g)), (7, (u c)), (21, (num .i64 ((x.length : Nat) : Int))), (22, (num .i64 ((x.length : Nat) : Int)))])
    (h7 : Den PP 127 [(W g)] [(W g)] (W r)) :
    Goes (EV PP 49 []) B206 [(0, (W a)), (1, (W b))] .ret [(4, (W r)), (5, (bl true))] :=
  pathG [.r [] [0, 1, 4, 5], .r [.c [(W a)] [(W a)] (W x), .c [(W b)] [(W b)] (W y)] [0, 1, 4, 5], .r [.c [(W x), (W y)] [(W x), (W y)] (num .i64 q)] [0, 1, 4, 5, 17], .t false, .r [.c [(W x), (num .i64 ((0 : Nat) : Int))] [(W x), (num .i64 ((0 : Nat) : Int))] (WO f)] [0, 1, 4, 5, 6, 17], .r [] [0, 1, 4, 5, 6, 7, 17], .r [] [0, 1, 4, 5, 6, 7, 17, 21, 22], .l [(0, (W x)), (1, (W y)), (6, (WO f)), (7, (u 0)), (21, (num .i64 ((x.length : Nat) : Int))), (22, (num .i64 ((0 : Nat) : Int)))] (.exit 0) [(0, (W x)), (1, (W y)), (6, (WO g)), (7, (u c)), (21, (num .i64 ((x.length : Nat) : Int))), (22, (num .i64 ((x.length : Nat) : Int)))], .f 6, .r [.c [(W g)] [(W g)] (W r)] [0, 1, 4, 5, 6, 7, 21, 22]] ((cc (fq a.length 1 (wf a)) (cc h1 (cc (fq b.length 1 (wf b)) (cc h2 (cc (fq x.length 1 (wf x)) (cc (fq y.length 1 (wf y)) (cc h3 (cc h4 (cc (fq x.length 1 (wf x)) (cc (er (0:Int)) (cc h5 (cc (fq x.length 1 (wf x)) (cc (fq y.length 1 (wf y)) (cc (fq f.length 1 (wf f)) (cc (er (0:Int)) (cc (er (x.length : Int)) (cc (er (0:Int)) (cc h6 (cc (fq g.length 1 (wf g)) (cc h7 (cc (fq r.length 1 (wf r)) (cc (er true) nn))))))))))))))))))))))) (by kernel_rfl)

/-- a slice of words, as a component -/
def wc (l : List Nat) : Bool × List C := (false, [.d (.sf 1 l.length (wf l))])
theorem sub_loop (a b : List Nat) (ha : Wd a) (hb : Wd b) (la : a.length ≤ 4294967296) (lb : b.length ≤ a.length) : ∀ (j i c : Nat) (ou : List Nat), i + j = a.length → ou.length = a.length → c ≤ 1 → Wd (ou.take i) →
    val (a.take i) + 4294967296 ^ i * c = val (ou.take i) + val (b.take i) →
    ∃ g c', Loops (EV PP 49 []) (sub [true, true, true, true, true, false, true, false, false] B206) [(0, W a), (1, W b), (6, WO ou), (7, u c), (21, num .i64 (a.length : Int)), (22, num .i64 (i : Int))] (.exit 0) [(0, W a), (1, W b), (6, WO g), (7, u c'), (21, num .i64 (a.length : Int)), (22, num .i64 (a.length : Int))] ∧
      g.length = a.length ∧ c' ≤ 1 ∧ Wd g ∧ val a + 4294967296 ^ a.length * c' = val g + val b
  | 0, i, c, ou, hi, ho, hc, hw, hv => by
    have : i = a.length := by omega
    subst this
    rw [List.take_of_length_le (by omega)] at hw
    refine ⟨ou, c, .leave (sub_end a b ou _ c (decide_eq_false (by omega))) (fun h => by cases h), ho, hc, hw, ?_⟩
    rw [List.take_length, List.take_of_length_le (by omega), List.take_of_length_le lb] at hv
    exact hv
  | j + 1, i, c, ou, hi, ho, hc, hw, hv => by
    have hx := ha.getD i
    have hy := hb.getD i
    have ht : Int.toNat (i : Int) = i := by omega
    let x := a.getD i 0
    let y := b.getD i 0
    have hlo : i < ou.length := by omega
    let s := (x + 8589934592 - y - c) % 4294967296
    let k := 2 - (x + 8589934592 - y - c) / 4294967296
    have hk : k ≤ 1 := by show 2 - (x + 8589934592 - y - c) / 4294967296 ≤ 1; omega
    have hsum : x + 4294967296 * k = s + y + c := by show x + 4294967296 * (2 - (x + 8589934592 - y - c) / 4294967296) = (x + 8589934592 - y - c) % 4294967296 + y + c; omega
    have hset := FEq.set ou i s hlo
    have hv' : val (a.take (i + 1)) + 4294967296 ^ (i + 1) * k = val ((ou.set i s).take (i + 1)) + val (b.take (i + 1)) := by
      rw [val_set_take _ _ _ hlo, val_take_succ, val_take_succ]
      have : 4294967296 ^ i * x + 4294967296 ^ (i + 1) * k = 4294967296 ^ i * s + 4294967296 ^ i * y + 4294967296 ^ i * c := by
        rw [Nat.pow_succ, Nat.mul_assoc, ← Nat.mul_add, hsum, Nat.mul_add, Nat.mul_add]
      show val (a.take i) + 4294967296 ^ i * x + _ = val (ou.take i) + 4294967296 ^ i * s + (val (b.take i) + 4294967296 ^ i * y)
      omega
    have go : Goes (EV PP 49 []) (sub [true, true, true, true, true, false, true, false, false] B206) [(0, W a), (1, W b), (6, WO ou), (7, u c), (21, num .i64 (a.length : Int)), (22, num .i64 (i : Int))] .normal [(0, W a), (1, W b), (6, WO (ou.set i s)), (7, u k), (21, num .i64 (a.length : Int)), (22, num .i64 ((i + 1 : Nat) : Int))] := by
      have hd : decide ((i : Int) < (a.length : Int)) = true := decide_eq_true (by omega)
      by_cases hib : i < b.length
      · exact sub_in a b ou _ i c x y _ _ hd (decide_eq_true (by omega)) ⟨by omega, by omega⟩ ⟨by omega, by omega⟩ (by rw [ht]) (by rw [ht]) (limb_sub x y c hx hy (by omega)) ⟨by omega, by omega⟩ (i64_ok (by omega) (by omega)) (by rw [ht]; exact hset) (by omega)
      · have hy0 : y = 0 := by show b.getD i 0 = 0; rw [List.getD_eq_getElem?_getD, List.getElem?_eq_none (by omega)]; rfl
        have hl := limb_sub x y c hx hy (by omega)
        have hl : Den PP 250 [u x, u 0, u c] [u x, u 0, u c] (.tup [uc s, uc k]) := by
          have h2 : Den PP 250 [u x, u y, u c] [u x, u y, u c] (.tup [uc s, uc k]) := hl
          rw [hy0] at h2
          exact h2
        exact sub_out a b ou _ i c x _ _ hd (decide_eq_false (by omega)) ⟨by omega, by omega⟩ (by rw [ht]) hl ⟨by omega, by omega⟩ (i64_ok (by omega) (by omega)) (by rw [ht]; exact hset) (by omega)
    obtain ⟨g, c', h1, h2⟩ := sub_loop a b ha hb la lb j (i + 1) k (ou.set i s) (by omega) (by simpa using ho) hk (hw.set_take (Nat.mod_lt _ (by omega))) hv'
    exact ⟨g, c', .again go h1, h2⟩
theorem cmp3_lt {m n : Nat} : cmp3 m n < 0 ↔ m < n := by
  unfold cmp3
  split
  · simp [*]
  · split <;> simp [*]
theorem nat_sub_no (a b : List Nat) (ha : Wd a) (hb : Wd b) (la : a.length ≤ 2147483648) (lb : b.length ≤ 2147483648) (h : val a < val b) :
    Den PP 206 [W a, W b] [W a, W b] (.tup [wc [], bc false]) := by
  refine D206 (gout := [(4, W []), (5, bl false)]) (e := .ret) (by kernel_rfl) (by kernel_rfl) ?_ (.inr rfl)
  have ta := nat_trim a (by omega)
  have tb := nat_trim b (by omega)
  have l1 := trim_len a
  have l2 := trim_len b
  have hc := nat_cmp (wd (val a)) (wd (val b)) (wd_Wd _) (wd_Wd _) (by rw [← trimL_eq ha]; omega) (by rw [← trimL_eq hb]; omega)
  rw [val_wd, val_wd] at hc
  rw [trimL_eq ha] at ta
  rw [trimL_eq hb] at tb
  exact sub_no a b _ _ _ ta tb hc (decide_eq_true (cmp3_lt.2 h)) rfl
theorem nat_sub (a b : List Nat) (ha : Wd a) (hb : Wd b) (la : a.length ≤ 2147483648) (lb : b.length ≤ 2147483648) (h : val b ≤ val a) :
    Den PP 206 [W a, W b] [W a, W b] (.tup [wc (wd (val a - val b)), bc true]) := by
  refine D206 (gout := [(4, W (wd (val a - val b))), (5, bl true)]) (e := .ret) (by kernel_rfl) (by kernel_rfl) ?_ (.inr rfl)
  have ta := nat_trim a (by omega)
  have tb := nat_trim b (by omega)
  have l1 := trim_len a
  have l2 := trim_len b
  rw [trimL_eq ha] at ta l1
  rw [trimL_eq hb] at tb l2
  have hc := nat_cmp (wd (val a)) (wd (val b)) (wd_Wd _) (wd_Wd _) (by omega) (by omega)
  rw [val_wd, val_wd] at hc
  have hlen : (wd (val b)).length ≤ (wd (val a)).length := by
    rcases Nat.lt_or_ge (wd (val a)).length (wd (val b)).length with h2 | h2
    · have := len_lt h2; omega
    · exact h2
  have hf := nat_fresh (wd (val a)) 0 (by omega) (by omega)
  rw [List.replicate_zero, List.append_nil] at hf
  obtain ⟨g, c, h1, h2, h3, h4, h5⟩ := sub_loop (wd (val a)) (wd (val b)) (wd_Wd _) (wd_Wd _) (by omega) hlen (wd (val a)).length 0 0 (wd (val a)) (by omega) rfl (by omega) (fun x hx => by simp at hx) rfl
  rw [val_wd, val_wd] at h5
  have hlt := val_lt h4
  rw [h2] at hlt
  have hc0 : c = 0 := by
    rcases Nat.eq_zero_or_pos c with h0 | h0
    · exact h0
    · have : c = 1 := by omega
      subst this
      rw [Nat.mul_one] at h5
      omega
  subst hc0
  have hg : val g = val a - val b := by omega
  have ht := nat_trim g (by omega)
  rw [trimL_eq h4, hg] at ht
  exact sub_yes a b _ _ (wd (val a)) g _ _ 0 ta tb hc (decide_eq_false (fun hc => by have := cmp3_lt.1 hc; omega)) hf h1 ht
end Go.X
namespace Go.X
open Go

/-- the lowest k words of a number -/
def digs : Nat → Nat → List Nat
  | 0, _ => []
  | k + 1, n => n % 4294967296 :: digs k (n / 4294967296)
theorem digs_len : ∀ (k n : Nat), (digs k n).length = k
  | 0, _ => rfl
  | k + 1, n => by rw [digs, List.length_cons, digs_len k]
theorem digs_Wd : ∀ (k n : Nat), Wd (digs k n)
  | 0, _, x, hx => by cases hx
  | k + 1, n, x, hx => by
    rw [digs] at hx
    rcases List.mem_cons.1 hx with rfl | hx
    · exact Nat.mod_lt _ (by omega)
    · exact digs_Wd k _ x hx
theorem Bpos (k : Nat) : 0 < 4294967296 ^ k := Nat.pow_pos (by omega)
theorem Bsucc (k : Nat) : 4294967296 ^ (k + 1) = 4294967296 * 4294967296 ^ k := by rw [Nat.pow_succ, Nat.mul_comm]
theorem val_digs : ∀ (k n : Nat), val (digs k n) = n % 4294967296 ^ k
  | 0, n => by rw [digs, val, Nat.pow_zero, Nat.mod_one]
  | k + 1, n => by
    rw [digs, val, val_digs k, Bsucc, Nat.mod_mul]
theorem val_digs_lt {k n : Nat} (h : n < 4294967296 ^ k) : val (digs k n) = n := by rw [val_digs, Nat.mod_eq_of_lt h]
theorem digs_val : ∀ {l : List Nat}, Wd l → digs l.length (val l) = l
  | [], _ => rfl
  | a :: l, h => by
    have ha := h.head
    rw [List.length_cons, digs, val, show (a + 4294967296 * val l) % 4294967296 = a by omega, show (a + 4294967296 * val l) / 4294967296 = val l by omega, digs_val h.tail]
theorem digs_succ : ∀ (k n : Nat), digs (k + 1) n = digs k n ++ [n / 4294967296 ^ k % 4294967296]
  | 0, n => by simp [digs]
  | k + 1, n => by
    rw [digs, digs_succ k, digs, List.cons_append, Nat.div_div_eq_div_mul, ← Bsucc]
theorem digs_mod : ∀ (k n : Nat), digs k (n % 4294967296 ^ k) = digs k n
  | 0, _ => rfl
  | k + 1, n => by
    rw [digs, digs]
    have e1 : n % 4294967296 ^ (k + 1) % 4294967296 = n % 4294967296 := by
      rw [Nat.mod_mod_of_dvd]; rw [Bsucc]; exact Nat.dvd_mul_right _ _
    have e2 : n % 4294967296 ^ (k + 1) / 4294967296 = n / 4294967296 % 4294967296 ^ k := by
      rw [Bsucc, Nat.mod_mul_right_div_self]
    rw [e1, e2, digs_mod k]
/-- one digit more: what is added lies higher -/
theorem digs_add (k n t : Nat) : digs (k + 1) (n + 4294967296 ^ k * t) = digs k n ++ [(n / 4294967296 ^ k + t) % 4294967296] := by
  rw [digs_succ]
  congr 1
  · rw [← digs_mod k (n + 4294967296 ^ k * t), Nat.add_mul_mod_self_left, digs_mod]
  · rw [Nat.add_mul_div_left _ _ (Bpos k)]
theorem div_add (k n t : Nat) : (n + 4294967296 ^ k * t) / 4294967296 ^ (k + 1) = (n / 4294967296 ^ k + t) / 4294967296 := by
  rw [Bsucc, Nat.mul_comm 4294967296, ← Nat.div_div_eq_div_mul, Nat.add_mul_div_left _ _ (Bpos k)]
theorem trim_digs (k n : Nat) : trimL (digs k n) = wd (n % 4294967296 ^ k) := by rw [trimL_eq (digs_Wd _ _), val_digs]
theorem trim_digs_lt {k n : Nat} (h : n < 4294967296 ^ k) : trimL (digs k n) = wd n := by rw [trim_digs, Nat.mod_eq_of_lt h]
theorem digs_zero : ∀ k, digs k 0 = List.replicate k 0
  | 0 => rfl
  | k + 1 => by rw [digs, List.replicate_succ, digs_zero k]

/-! lists in three parts -/
theorem set_mid (l p s z : List Nat) (i : Nat) (v : Nat) (hp : p.length = i) (hs : 0 < s.length) :
    (l ++ (p ++ s) ++ z).set (l.length + i) v = l ++ (p ++ [v] ++ s.drop 1) ++ z := by
  subst hp
  cases s with
  | nil => simp at hs
  | cons a s => simp
theorem getD_mid (l p s z : List Nat) (i : Nat) (hp : p.length = i) (hs : 0 < s.length) :
    (l ++ (p ++ s) ++ z).getD (l.length + i) 0 = s.getD 0 0 := by
  subst hp
  cases s with
  | nil => simp at hs
  | cons a s =>
    rw [List.getD_eq_getElem?_getD, List.getElem?_append_left (by simp), List.getElem?_append_right (by omega), List.getElem?_append_right (by omega)]
    simp
theorem drop_getD (w : List Nat) (i : Nat) : (w.drop i).getD 0 0 = w.getD i 0 := by
  simp [List.getD_eq_getElem?_getD]
theorem getD_left (l m : List Nat) (i : Nat) (h : i < l.length) : (l ++ m).getD i 0 = l.getD i 0 := by
  rw [List.getD_eq_getElem?_getD, List.getElem?_append_left h, List.getD_eq_getElem?_getD]
theorem getD_right (l m : List Nat) (i : Nat) (h : l.length ≤ i) : (l ++ m).getD i 0 = m.getD (i - l.length) 0 := by
  rw [List.getD_eq_getElem?_getD, List.getElem?_append_right h, List.getD_eq_getElem?_getD]
theorem getD_digs : ∀ (k n i : Nat), i < k → (digs k n).getD i 0 = n / 4294967296 ^ i % 4294967296
  | k + 1, n, 0, _ => by simp [digs]
  | k + 1, n, i + 1, h => by
    have := getD_digs k (n / 4294967296) i (by omega)
    rw [digs, List.getD_cons_succ, this, Nat.div_div_eq_div_mul, ← Bsucc]
theorem val_take_lt {l : List Nat} (h : Wd l) (i : Nat) : val (l.take i) < 4294967296 ^ i := by
  have h1 := val_lt (h.take i)
  have : 4294967296 ^ (l.take i).length ≤ 4294967296 ^ i := Nat.pow_le_pow_right (by omega) (by rw [List.length_take]; omega)
  omega
theorem val_split (l : List Nat) (i : Nat) (h : i ≤ l.length) : val l = val (l.take i) + 4294967296 ^ i * val (l.drop i) := by
  have := val_append (l.take i) (l.drop i)
  rw [List.take_append_drop, List.length_take, Nat.min_eq_left h] at this
  exact this
theorem val_take_digs (w : List Nat) (hw : Wd w) (i : Nat) : w.take i = digs (min i w.length) (val (w.take i)) := by
  have := digs_val (hw.take i)
  rw [List.length_take] at this
  exact this.symm
theorem mulB (k a b : Nat) : 4294967296 ^ k * a + 4294967296 ^ k * b = 4294967296 ^ k * (a + b) := by rw [Nat.mul_add]
theorem FEqset (o : List Nat) (i x : Nat) (h : i < o.length) {r : List Nat} (hr : o.set i x = r) : o.length = r.length ∧ FEq o.length 1 (updF (wf o) i 0 [.d (.v (.int .u32 (x : Int)))]) (wf r) := by
  subst hr; exact FEq.set o i x h
theorem len_sum {l m : List Nat} {z K : Nat} (hl : Wd l) (hm : Wd m) (ll : l.length ≤ K) (lm : m.length ≤ K) (h : z ≤ val l + val m) : (wd z).length ≤ K + 1 := by
  have h1 := val_lt hl
  have h2 := val_lt hm
  have h3 : 4294967296 ^ l.length ≤ 4294967296 ^ K := Nat.pow_le_pow_right (by omega) ll
  have h4 : 4294967296 ^ m.length ≤ 4294967296 ^ K := Nat.pow_le_pow_right (by omega) lm
  refine wd_len_le ?_
  rw [Bsucc]
  generalize 4294967296 ^ K = B at *
  omega
end Go.X
namespace Go.X
open Go

/-- rows of lists of words -/
def wwf (ls : List (List Nat)) : Nat → Nat → D := fun j _ => .sf 1 (ls.getD j []).length (wf (ls.getD j []))
def WW (ls : List (List Nat)) : S := .one false [.d (.sf 1 ls.length (wwf ls))]
/-- a fraction, as it stands: its sign, its upper words, its lower ones -/
structure Fq where
  neg : Bool
  n : List Nat
  d : List Nat
def fz : Fq := ⟨false, [], []⟩
def Fq.c (a : Fq) : Nat → D
  | 0 => .v (.bool a.neg)
  | 1 => .sf 1 a.n.length (wf a.n)
  | _ => .sf 1 a.d.length (wf a.d)
def FS (a : Fq) : S := .one true [.d (.v (.bool a.neg)), .d (.sf 1 a.n.length (wf a.n)), .d (.sf 1 a.d.length (wf a.d))]
def fsc (a : Fq) : Bool × List C := (true, [.d (.v (.bool a.neg)), .d (.sf 1 a.n.length (wf a.n)), .d (.sf 1 a.d.length (wf a.d))])
def ff (l : List Fq) : Nat → Nat → D := fun j => (l.getD j fz).c
def FL (l : List Fq) : S := .one false [.d (.sf 3 l.length (ff l))]
def FO (l : List Fq) : S := .one false [.own 3 l.length (ff l)]
def FA (l : List Fq) : S := .one false [.app 3 l.length (ff l)]
end Go.X
namespace Go.X
open Go Go.Proofs
noncomputable def B166 : Code := codeOf Tryz.f166
noncomputable def E166 : Env := EV PP 24 []
theorem D166 {args outs : List S} {gout : List (Nat × S)} {e : Fin} {res : S} (hg : Goes E166 B166 (entry 0 args) e gout) (he : e = .normal ∨ e = .ret) (hle : Nat.ble args.length 24 = true)
    (hfin : finE (tabOf PP) gout Tryz.f166.results.toList args [] = some (outs, res)) : Den PP 166 args outs res :=
  den_tab (fn := Tryz.f166) (c := B166) (by kernel_rfl) (by kernel_rfl) (by kernel_rfl) (by kernel_rfl) hle hfin hg he
theorem gap_lt {a b r : List Nat} {q : Int}
    (h1 : Den PP 135 [(W a), (W b)] [(W a), (W b)] (num .i64 q))
    (h2 : Den PP 206 [(W b), (W a)] [(W b), (W a)] (.tup [wc r, bc true]))
    (h3 : (decide (q < (0:Int))) = true) :
    Goes E166 B166 [(0, (W a)), (1, (W b))] .ret [(4, (W r)), (5, (num .i64 q))] :=
  pathG [.r [] [0, 1, 4, 5], .r [.c [(W a), (W b)] [(W a), (W b)] (num .i64 q)] [0, 1, 4, 5, 6], .r [] [0, 1, 4, 5, 6, 13], .t true, .r [] [0, 1, 4, 5, 6, 13], .r [.c [(W b), (W a)] [(W b), (W a)] (.tup [wc r, bc true])] [0, 1, 4, 5, 6, 7, 13], .r [] [0, 1, 4, 5, 6, 7, 13]] ((cc (fq a.length 1 (wf a)) (cc (fq b.length 1 (wf b)) (cc h1 (cc h3 (cc (fq b.length 1 (wf b)) (cc (fq a.length 1 (wf a)) (cc h2 (cc (fq r.length 1 (wf r)) (cc (er q) nn)))))))))) (by kernel_rfl)
theorem gap_ge {a b r : List Nat} {q : Int}
    (h1 : Den PP 135 [(W a), (W b)] [(W a), (W b)] (num .i64 q))
    (h2 : Den PP 206 [(W a), (W b)] [(W a), (W b)] (.tup [wc r, bc true]))
    (h3 : (decide (q < (0:Int))) = false) :
    Goes E166 B166 [(0, (W a)), (1, (W b))] .ret [(4, (W r)), (5, (num .i64 q))] :=
  pathG [.r [] [0, 1, 4, 5], .r [.c [(W a), (W b)] [(W a), (W b)] (num .i64 q)] [0, 1, 4, 5, 6], .r [] [0, 1, 4, 5, 6, 13], .t false, .r [.c [(W a), (W b)] [(W a), (W b)] (.tup [wc r, bc true])] [0, 1, 4, 5, 6, 7, 13], .r [] [0, 1, 4, 5, 6, 7, 13]] ((cc (fq a.length 1 (wf a)) (cc (fq b.length 1 (wf b)) (cc h1 (cc h3 (cc (fq a.length 1 (wf a)) (cc (fq b.length 1 (wf b)) (cc h2 (cc (fq r.length 1 (wf r)) (cc (er q) nn)))))))))) (by kernel_rfl)
def ic (n : Int) : Bool × List C := (false, [.d (.v (.int .i64 n))])
theorem nat_gap (a b : List Nat) (ha : Wd a) (hb : Wd b) (la : a.length ≤ 2147483648) (lb : b.length ≤ 2147483648) :
    Den PP 166 [W a, W b] [W a, W b] (.tup [wc (wd (val a - val b + (val b - val a))), ic (cmp3 (val a) (val b))]) := by
  refine D166 (gout := [(4, W (wd (val a - val b + (val b - val a)))), (5, num .i64 (cmp3 (val a) (val b)))]) (e := .ret) ?_ (by first | exact .inr rfl | exact .inl rfl) (by kernel_rfl) (by kernel_rfl)

  have hc := nat_cmp a b ha hb (by omega) (by omega)
  by_cases h : val a < val b
  · have := nat_sub b a hb ha lb la (by omega)
    rw [show val b - val a = val a - val b + (val b - val a) by omega] at this
    exact gap_lt hc this (decide_eq_true (cmp3_lt.2 h))
  · have := nat_sub a b ha hb la lb (by omega)
    rw [show val a - val b = val a - val b + (val b - val a) by omega] at this
    exact gap_ge hc this (decide_eq_false (fun hc => h (cmp3_lt.1 hc)))
noncomputable def B243 : Code := codeOf Tryz.f243
noncomputable def E243 : Env := EV PP 28 []
theorem D243 {args outs : List S} {gout : List (Nat × S)} {e : Fin} {res : S} (hg : Goes E243 B243 (entry 0 args) e gout) (he : e = .normal ∨ e = .ret) (hle : Nat.ble args.length 28 = true)
    (hfin : finE (tabOf PP) gout Tryz.f243.results.toList args [] = some (outs, res)) : Den PP 243 args outs res :=
  den_tab (fn := Tryz.f243) (c := B243) (by kernel_rfl) (by kernel_rfl) (by kernel_rfl) (by kernel_rfl) hle hfin hg he
noncomputable def L243a : Code := sub [true, true, true, true, false, true, false, false] B243
def sSmall (x : List Nat) (n i : Nat) : List (Nat × S) := [(0, (W x)), (4, (num .u64 ((n : Nat) : Int))), (12, (W x)), (13, (num .i64 ((x.length : Nat) : Int))), (14, (num .i64 ((i : Nat) : Int)))]
theorem small_in {x : List Nat} {n y i m : Nat}
    (h1 : (decide (((i : Nat) : Int) < ((x.length : Nat) : Int))) = true)
    (h2 : idx x.length ((i : Nat) : Int))
    (h3 : (x.getD (Int.toNat ((i : Nat) : Int)) 0 : Int) = ((y : Nat) : Int))
    (h4 : inR .i64 ((32:Int) * ((i : Nat) : Int)))
    (h5 : 0 ≤ ((32:Int) * ((i : Nat) : Int)) ∧ True)
    (h6 : inR .i64 (((i : Nat) : Int) + (1:Int)))
    (h7 : ((IntKind.u64).wrap (((BitVec.ofInt (IntKind.u64).bits ((n : Nat) : Int)) ||| (BitVec.ofInt (IntKind.u64).bits (wr .u64 ((wr .u64 ((y : Nat) : Int)) * 2 ^ (min (Int.toNat ((32:Int) * ((i : Nat) : Int))) (IntKind.u64).bits))))).toNat : Int)) = ((m : Nat) : Int))
    (h8 : (((i : Nat) : Int) + (1:Int)) = ((i + 1 : Nat) : Int)) :
    Goes E243 L243a (sSmall x n i) .normal (sSmall x m (i + 1)) :=
  pathG [.r [] [0, 4, 12, 13, 14, 15], .t true, .r [] [0, 4, 5, 6, 12, 13, 14, 15], .u [(0, (W x)), (4, (num .u64 ((n : Nat) : Int))), (6, (u y)), (5, (num .i64 ((i : Nat) : Int))), (12, (W x)), (13, (num .i64 ((x.length : Nat) : Int))), (14, (num .i64 ((i : Nat) : Int)))], .r [] [0, 4, 5, 6, 12, 13, 14], .r [] [0, 4, 5, 6, 12, 13, 14]] ((cc h1 (cc h2 (cc (fq x.length 1 (wf x)) (cc (er ((n : Nat) : Int)) (cc h3 (cc (er ((i : Nat) : Int)) (cc (fq x.length 1 (wf x)) (cc (er ((x.length : Nat) : Int)) (cc (er ((i : Nat) : Int)) (cc tt (cc h4 (cc h5 (cc tt (cc h6 (cc (fq x.length 1 (wf x)) (cc h7 (cc (fq x.length 1 (wf x)) (cc (er ((x.length : Nat) : Int)) (cc h8 nn)))))))))))))))))))) (by kernel_rfl)
theorem small_out {x : List Nat} {n i : Nat}
    (h1 : (decide (((i : Nat) : Int) < ((x.length : Nat) : Int))) = false) :
    Goes E243 L243a (sSmall x n i) (.exit 0) (sSmall x n i) :=
  pathG [.r [] [0, 4, 12, 13, 14, 15], .t false] ((cc h1 (cc (fq x.length 1 (wf x)) (cc (er ((n : Nat) : Int)) (cc (fq x.length 1 (wf x)) (cc (er ((x.length : Nat) : Int)) (cc (er ((i : Nat) : Int)) nn))))))) (by kernel_rfl)
theorem small_yes {a x : List Nat} {n : Nat}
    (h1 : Den PP 127 [(W a)] [(W a)] (W x))
    (h2 : Loops E243 L243a (sSmall x 0 0) (.exit 0) (sSmall x n x.length))
    (h3 : (decide ((x.length : Int) > (2:Int))) = false) :
    Goes E243 B243 [(0, (W a))] .ret [(2, (num .u64 ((n : Nat) : Int))), (3, (bl true))] :=
  pathG [.r [] [0, 2, 3], .r [.c [(W a)] [(W a)] (W x)] [0, 2, 3], .r [] [0, 2, 3, 11], .t false, .r [] [0, 2, 3, 4, 11], .r [] [0, 2, 3, 4, 11, 12, 13, 14], .l (sSmall x 0 0) (.exit 0) (sSmall x n x.length), .r [] [0, 2, 3, 4, 12, 13, 14]] ((cc (fq a.length 1 (wf a)) (cc h1 (cc h3 (cc (fq x.length 1 (wf x)) (cc (er (0:Int)) (cc (fq x.length 1 (wf x)) (cc (er (x.length : Int)) (cc (er (0:Int)) (cc h2 (cc (er ((n : Nat) : Int)) (cc (er true) nn)))))))))))) (by kernel_rfl)

theorem or_at (n y i : Nat) (hi : i < 2) (hn : n < 4294967296 ^ i) (hy : y < 4294967296) :
    (IntKind.u64).wrap (((BitVec.ofInt (IntKind.u64).bits (n : Int)) ||| (BitVec.ofInt (IntKind.u64).bits (wr .u64 (wr .u64 (y : Int) * 2 ^ (min (Int.toNat ((32:Int) * ((i : Nat) : Int))) (IntKind.u64).bits))))).toNat : Int) = ((n + 4294967296 ^ i * y : Nat) : Int) := by
  have e1 : wr .u64 (y : Int) = y := by rw [wr64]; omega
  match i, hi with
  | 0, _ =>
    have : wr .u64 (wr .u64 (y : Int) * 2 ^ (min (Int.toNat ((32:Int) * ((0 : Nat) : Int))) (IntKind.u64).bits)) = (y : Int) := by
      rw [e1, show (2 : Int) ^ (min (Int.toNat ((32:Int) * ((0 : Nat) : Int))) (IntKind.u64).bits) = 1 by decide, wr64]; omega
    have h0 : n = 0 := by simp at hn; exact hn
    subst h0
    rw [this, or64 _ _ (by omega) (by omega) (by simp; omega)]; simp
  | 1, _ =>
    have : wr .u64 (wr .u64 (y : Int) * 2 ^ (min (Int.toNat ((32:Int) * ((1 : Nat) : Int))) (IntKind.u64).bits)) = ((y * 4294967296 : Nat) : Int) := by
      rw [e1, show (2 : Int) ^ (min (Int.toNat ((32:Int) * ((1 : Nat) : Int))) (IntKind.u64).bits) = 4294967296 by decide, wr64]; omega
    have hn : n < 4294967296 := by simpa using hn
    have ho : n ||| y * 4294967296 = y * 4294967296 + n := by rw [Nat.or_comm, or_low _ _ hn]
    rw [this, or64 _ _ (by omega) (by omega) (by rw [ho]; omega), ho]; omega
theorem small_loop (x : List Nat) (hx : Wd x) (lx : x.length ≤ 2) : ∀ (j i : Nat), i + j = x.length → Loops E243 L243a (sSmall x (val (x.take i)) i) (.exit 0) (sSmall x (val x) x.length)
  | 0, i, hi => by
    have : i = x.length := by omega
    subst this
    rw [List.take_length]
    exact .leave (small_out (decide_eq_false (by omega))) (fun h => by cases h)
  | j + 1, i, hi => by
    refine .again (small_in (y := x.getD i 0) (m := val (x.take (i + 1))) (decide_eq_true (by omega)) ⟨by omega, by omega⟩ rfl ?_ ?_ ?_ ?_ ?_) (small_loop x hx lx j (i + 1) (by omega))
    · exact i64_ok (by omega) (by omega)
    · exact ⟨by omega, trivial⟩
    · exact i64_ok (by omega) (by omega)
    · rw [or_at _ _ _ (by omega) (val_take_lt hx i) (hx.getD i), val_take_succ]
    · omega
def u64c (n : Nat) : Bool × List C := (false, [.d (.v (.int .u64 (n : Int)))])
theorem wd_le2 {n : Nat} (h : n < 18446744073709551616) : (wd n).length ≤ 2 := wd_len_le (k := 2) (by omega)
theorem nat_small (a : List Nat) (ha : Wd a) (la : a.length ≤ 2147483648) (h : val a < 18446744073709551616) :
    Den PP 243 [W a] [W a] (.tup [u64c (val a), bc true]) := by
  refine D243 (gout := [(2, num .u64 (val a : Int)), (3, bl true)]) (e := .ret) ?_ (by first | exact .inr rfl | exact .inl rfl) (by kernel_rfl) (by kernel_rfl)

  have ht := nat_trim a (by omega)
  rw [trimL_eq ha] at ht
  have hl := wd_le2 h
  have hp := small_loop (wd (val a)) (wd_Wd _) hl (wd (val a)).length 0 (by omega)
  rw [val_wd] at hp
  exact small_yes ht hp (decide_eq_false (by omega))
noncomputable def B165 : Code := codeOf Tryz.f165
noncomputable def E165 : Env := EV PP 18 []
theorem D165 {args outs : List S} {gout : List (Nat × S)} {e : Fin} {res : S} (hg : Goes E165 B165 (entry 0 args) e gout) (he : e = .normal ∨ e = .ret) (hle : Nat.ble args.length 18 = true)
    (hfin : finE (tabOf PP) gout Tryz.f165.results.toList args [] = some (outs, res)) : Den PP 165 args outs res :=
  den_tab (fn := Tryz.f165) (c := B165) (by kernel_rfl) (by kernel_rfl) (by kernel_rfl) (by kernel_rfl) hle hfin hg he
noncomputable def L165a : Code := sub [true, true, false, true, false, false] B165
def sAdd (ls : List (List Nat)) (s : List Nat) (i : Nat) : List (Nat × S) := [(0, (WW ls)), (3, (W s)), (6, (WW ls)), (7, (num .i64 ((ls.length : Nat) : Int))), (8, (num .i64 ((i : Nat) : Int)))]
theorem add_in {ls : List (List Nat)} {s a t r : List Nat} {i : Nat}
    (h1 : Den PP 127 [(W a)] [(W a)] (W t))
    (h2 : Den PP 205 [(W s), (W t)] [(W s), (W t)] (W r))
    (h3 : (decide (((i : Nat) : Int) < ((ls.length : Nat) : Int))) = true)
    (h4 : idx ls.length ((i : Nat) : Int))
    (h5 : (ls.getD (Int.toNat ((i : Nat) : Int)) []).length = a.length ∧ FEq ((ls.getD (Int.toNat ((i : Nat) : Int)) []).length) 1 (wf (ls.getD (Int.toNat ((i : Nat) : Int)) [])) (wf a))
    (h6 : inR .i64 (((i : Nat) : Int) + (1:Int)))
    (h7 : (((i : Nat) : Int) + (1:Int)) = ((i + 1 : Nat) : Int)) :
    Goes E165 L165a (sAdd ls s i) .normal (sAdd ls r (i + 1)) :=
  pathG [.r [] [0, 3, 6, 7, 8, 9], .t true, .r [] [0, 3, 5, 6, 7, 8, 9], .r [.c [(W a)] [(W a)] (W t), .c [(W s), (W t)] [(W s), (W t)] (W r)] [0, 3, 5, 6, 7, 8, 9], .r [] [0, 3, 5, 6, 7, 8, 9]] ((cc h3 (cc h4 (cc h5 (cc h1 (cc (fq s.length 1 (wf s)) (cc (fq t.length 1 (wf t)) (cc h2 (cc h6 (cc (fq ls.length 1 (wwf ls)) (cc (fq r.length 1 (wf r)) (cc (fq ls.length 1 (wwf ls)) (cc (er ((ls.length : Nat) : Int)) (cc h7 nn)))))))))))))) (by kernel_rfl)
theorem add_out {ls : List (List Nat)} {s : List Nat} {i : Nat}
    (h1 : (decide (((i : Nat) : Int) < ((ls.length : Nat) : Int))) = false) :
    Goes E165 L165a (sAdd ls s i) (.exit 0) (sAdd ls s i) :=
  pathG [.r [] [0, 3, 6, 7, 8, 9], .t false] ((cc h1 (cc (fq ls.length 1 (wwf ls)) (cc (fq s.length 1 (wf s)) (cc (fq ls.length 1 (wwf ls)) (cc (er ((ls.length : Nat) : Int)) (cc (er ((i : Nat) : Int)) nn))))))) (by kernel_rfl)
theorem add_all {ls : List (List Nat)} {r : List Nat}
    (h1 : Loops E165 L165a (sAdd ls ([] : List Nat) 0) (.exit 0) (sAdd ls r ls.length))
    (h2 : ([] : List Nat).length = 0) :
    Goes E165 B165 [(0, (WW ls))] .ret [(2, (W r))] :=
  pathG [.r [] [0, 2], .r [] [0, 2, 3], .r [] [0, 2, 3, 6, 7, 8], .l (sAdd ls ([] : List Nat) 0) (.exit 0) (sAdd ls r ls.length), .r [] [0, 2, 3, 6, 7, 8]] ((cc (fq ls.length 1 (wwf ls)) (cc h2 (cc (fq ls.length 1 (wwf ls)) (cc (er (ls.length : Int)) (cc (er (0:Int)) (cc h1 (cc (fq r.length 1 (wf r)) nn)))))))) (by kernel_rfl)

def vals (ls : List (List Nat)) : Nat := (ls.map val).sum
theorem vals_take (ls : List (List Nat)) (i : Nat) (h : i < ls.length) : vals (ls.take (i + 1)) = vals (ls.take i) + val (ls.getD i []) := by
  unfold vals
  rw [List.take_succ_eq_append_getElem h, List.map_append, List.sum_append, List.getD_eq_getElem?_getD, List.getElem?_eq_getElem h]
  simp
theorem add_loop (ls : List (List Nat)) (hw : ∀ l ∈ ls, Wd l) (hl : ∀ l ∈ ls, l.length ≤ 1073741824) (hn : ls.length ≤ 4096) : ∀ (j i : Nat), i + j = ls.length → (wd (vals (ls.take i))).length ≤ 1073741824 + i →
    Loops E165 L165a (sAdd ls (wd (vals (ls.take i))) i) (.exit 0) (sAdd ls (wd (vals ls)) ls.length)
  | 0, i, hi, hb => by
    have : i = ls.length := by omega
    subst this
    rw [List.take_length]
    exact .leave (add_out (decide_eq_false (by omega))) (fun h => by cases h)
  | j + 1, i, hi, hb => by
    have hm : ls.getD i [] ∈ ls := by rw [List.getD_eq_getElem?_getD, List.getElem?_eq_getElem (by omega)]; exact List.getElem_mem _
    have ha := hw _ hm
    have la := hl _ hm
    have ht := nat_trim (ls.getD i []) (by omega)
    rw [trimL_eq ha] at ht
    have lt : (wd (val (ls.getD i []))).length ≤ 1073741824 := by
      have := trim_len (ls.getD i []); rw [trimL_eq ha] at this; omega
    have hp := nat_plus (wd (vals (ls.take i))) (wd (val (ls.getD i []))) (wd_Wd _) (wd_Wd _) (by omega) (by omega)
    rw [val_wd, val_wd, ← vals_take ls i (by omega)] at hp
    have hb' : (wd (vals (ls.take (i + 1)))).length ≤ 1073741824 + (i + 1) := by
      refine wd_len_le ?_
      have h1 := wd_len_lt (vals (ls.take i))
      have h2 := wd_len_lt (val (ls.getD i []))
      have h3 : 4294967296 ^ (wd (vals (ls.take i))).length ≤ 4294967296 ^ (1073741824 + i) := Nat.pow_le_pow_right (by omega) hb
      have h4 : 4294967296 ^ (wd (val (ls.getD i []))).length ≤ 4294967296 ^ (1073741824 + i) := Nat.pow_le_pow_right (by omega) (by omega)
      rw [vals_take ls i (by omega), ← Nat.add_assoc, Bsucc]
      omega
    refine .again (add_in (a := ls.getD i []) ht hp (decide_eq_true (by omega)) ⟨by omega, by omega⟩ ⟨rfl, FEq.refl _ _ _⟩ (i64_ok (by omega) (by omega)) (by omega)) (add_loop ls hw hl hn j (i + 1) (by omega) hb')
theorem nat_add (ls : List (List Nat)) (hw : ∀ l ∈ ls, Wd l) (hl : ∀ l ∈ ls, l.length ≤ 1073741824) (hn : ls.length ≤ 4096) :
    Den PP 165 [WW ls] [WW ls] (W (wd (vals ls))) := by
  refine D165 (gout := [(2, W (wd (vals ls)))]) (e := .ret) ?_ (by first | exact .inr rfl | exact .inl rfl) (by kernel_rfl) (by kernel_rfl)

  have h := add_loop ls hw hl hn ls.length 0 (by omega) (by rw [List.take_zero, show vals [] = 0 from rfl, wd_zero]; simp)
  rw [List.take_zero, show vals [] = 0 from rfl, wd_zero] at h
  exact add_all h rfl
end Go.X
