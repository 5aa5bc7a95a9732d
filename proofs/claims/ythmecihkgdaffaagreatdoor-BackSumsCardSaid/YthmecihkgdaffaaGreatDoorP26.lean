/- Part 26 of the proof of BackSums: Paths and contracts. Paths and contracts. Paths and contracts. No conditions but those that each theorem names. -/
import Derived.Test.YthmecihkgdaffaaGreatDoorP25
namespace Go.X
open Go Go.Proofs
noncomputable def B47 : Code := codeOf Tryz.f47
noncomputable def E47 : Env := EV PP 20 []
theorem D47 {args outs : List S} {gout : List (Nat × S)} {e : Fin} {res : S} (hg : Goes E47 B47 (entry 0 args) e gout) (he : e = .normal ∨ e = .ret) (hle : Nat.ble args.length 20 = true)
    (hfin : finE (tabOf PP) gout Tryz.f47.results.toList args [] = some (outs, res)) : Den PP 47 args outs res :=
  den_tab (fn := Tryz.f47) (c := B47) (by kernel_rfl) (by kernel_rfl) (by kernel_rfl) (by kernel_rfl) hle hfin hg he
noncomputable def L47a : Code := sub [true, true, true, false, true, false, false] B47
def sRz (p : List Fq) (n i : Nat) : List (Nat × S) := [(3, (FO p)), (10, (num .i64 ((n : Nat) : Int))), (11, (num .i64 ((i : Nat) : Int)))]
theorem rz_in  {p : List Fq} {i n : Nat} {k : Fq} 
    (h1 : Den PP 35 [(num .i64 (0:Int))] [(num .i64 (0:Int))] (FS k))
    (h2 : (decide (((i : Nat) : Int) < ((n : Nat) : Int))) = true)
    (h3 : idx p.length ((i : Nat) : Int))
    (h4 : inR .i64 (((i : Nat) : Int) + (1:Int)))
    (h5 : p.length = (p.set i k).length ∧ FEq p.length 3 (updF (ff p) (Int.toNat ((i : Nat) : Int)) 0 [(.d (.v (.bool k.neg))), (.d (.sf 1 k.n.length (wf k.n))), (.d (.sf 1 k.d.length (wf k.d)))]) (ff (p.set i k)))
    (h6 : (((i : Nat) : Int) + (1:Int)) = (((i + 1) : Nat) : Int)) :
    Goes E47 L47a (sRz p n i) .normal (sRz (p.set i k) n (i + 1)) :=
  pathG [.r [] [3, 10, 11, 12], .t true, .r [] [3, 4, 10, 11, 12], .r [.c [(num .i64 (0:Int))] [(num .i64 (0:Int))] (FS k)] [3, 4, 10, 11, 12], .r [] [3, 4, 10, 11, 12]] ((cc h2 (cc (er (0:Int)) (cc h1 (cc h3 (cc h4 (cc h5 (cc (er ((n : Nat) : Int)) (cc h6 nn))))))))) (by kernel_rfl)
theorem rz_out  {p : List Fq} {i n : Nat}  
    (h1 : (decide (((i : Nat) : Int) < ((n : Nat) : Int))) = false) :
    Goes E47 L47a (sRz p n i) (.exit 0) (sRz p n i) :=
  pathG [.r [] [3, 10, 11, 12], .t false] ((cc h1 (cc (fq p.length 3 (ff p)) (cc (er ((n : Nat) : Int)) (cc (er ((i : Nat) : Int)) nn))))) (by kernel_rfl)
theorem rz_all  {p l : List Fq} {i n : Nat}  {q : Int}
    (h1 : Loops E47 L47a (sRz p n 0) (.exit 0) (sRz l n i))
    (h2 : (if (300:Int) < (if (0:Int) > q then (0:Int) else q) then (300:Int) else (if (0:Int) > q then (0:Int) else q)) = (if (300:Int) < (if (0:Int) > q then (0:Int) else q) then (300:Int) else (if (0:Int) > q then (0:Int) else q)) ∧ 0 ≤ (if (300:Int) < (if (0:Int) > q then (0:Int) else q) then (300:Int) else (if (0:Int) > q then (0:Int) else q)) ∧ (if (300:Int) < (if (0:Int) > q then (0:Int) else q) then (300:Int) else (if (0:Int) > q then (0:Int) else q)) ≤ 140737488355328 ∧ (if (300:Int) < (if (0:Int) > q then (0:Int) else q) then (300:Int) else (if (0:Int) > q then (0:Int) else q)) * 56 ≤ 140737488355328)
    (h3 : (Int.toNat (if (300:Int) < (if (0:Int) > q then (0:Int) else q) then (300:Int) else (if (0:Int) > q then (0:Int) else q))) = p.length ∧ FEq (Int.toNat (if (300:Int) < (if (0:Int) > q then (0:Int) else q) then (300:Int) else (if (0:Int) > q then (0:Int) else q))) 3 (fun _ i => cellD ((([(.d (.v (.bool false))), (.app 0 0 (fun _ _ => .v undef)), (.app 0 0 (fun _ _ => .v undef))]).getD i nilC).plain)) (ff p))
    (h4 : (if (300:Int) < (if (0:Int) > q then (0:Int) else q) then (300:Int) else (if (0:Int) > q then (0:Int) else q)) = ((n : Nat) : Int)) :
    Goes E47 B47 [(0, (num .i64 q))] .ret [(2, (FO l))] :=
  pathG [.r [] [0, 2], .r [] [0, 2], .r [] [0, 2, 3], .r [] [0, 2, 3, 10, 11], .l (sRz p n 0) (.exit 0) (sRz l n i), .r [.m true] [2, 3, 10, 11]] ((cc h2 (cc h3 (cc h4 (cc (er (0:Int)) (cc h1 (cc (fq l.length 3 (ff l)) nn))))))) (by kernel_rfl)

theorem rz_start (N : Nat) {z : Int} (hz : z = N) : (Int.toNat z) = (List.replicate N fz).length ∧ FEq (Int.toNat z) 3 (fun _ i => cellD ((([(.d (.v (.bool false))), (.app 0 0 (fun _ _ => .v undef)), (.app 0 0 (fun _ _ => .v undef))]).getD i nilC).plain)) (ff (List.replicate N fz)) := by
  refine ⟨by rw [List.length_replicate]; omega, fun j i hj hi => ?_⟩
  have hd : (List.replicate N fz).getD j fz = fz := by
    have : j < N := by omega
    simp [List.getD, this]
  unfold ff
  rw [hd]
  match i, hi with
  | 0, _ => exact rfl
  | 1, _ => exact ⟨rfl, .inl rfl⟩
  | 2, _ => exact ⟨rfl, .inl rfl⟩
theorem rz_step (N i : Nat) (x : Fq) (h : i < N) : (tb i (fun _ => x) ++ List.replicate (N - i) fz).set i x = tb (i + 1) (fun _ => x) ++ List.replicate (N - (i + 1)) fz := by
  have e : N - i = (N - (i + 1)) + 1 := by omega
  rw [e, List.replicate_succ, List.set_append_right _ _ (by rw [tb_len]; omega), tb_len, Nat.sub_self, List.set_cons_zero, tb_succ, List.append_assoc]
  rfl
theorem rz_loop (N : Nat) (hN : N ≤ 300) : ∀ (j i : Nat), i + j = N →
    Loops E47 L47a (sRz (tb i (fun _ => rq 0) ++ List.replicate (N - i) fz) N i) (.exit 0) (sRz (rqs (noughts N)) N N) := by
  intro j
  induction j with
  | zero =>
    intro i hi
    refine .leave ?_ (fun h => by cases h)
    have : i = N := by omega
    subst this
    rw [Nat.sub_self, List.replicate_zero, List.append_nil, tb_noughts]
    exact rz_out (decide_eq_false (by omega))
  | succ j ih =>
    intro i hi
    have ht := ih (i + 1) (by omega)
    rw [← rz_step N i (rq 0) (by omega)] at ht
    refine Loops.again ?_ ht
    have hl : i < (tb i (fun _ => rq 0) ++ List.replicate (N - i) fz).length := by rw [List.length_append, tb_len, List.length_replicate]; omega
    exact rz_in (frac_of 0 (by omega) (by omega)) (decide_eq_true (by omega)) ⟨by omega, by omega⟩ (i64_ok (by omega) (by omega)) (ff_set _ _ _ hl) rfl
theorem row_zero (q : Int) (N : Nat) (hN : (N : Int) = min (max q 0) 300) :
    Den PP 47 [num .i64 q] [num .i64 q] (FO (rqs (noughts N))) := by
  refine D47 (gout := [(2, FO (rqs (noughts N)))]) (e := .ret) ?_ (by first | exact .inr rfl | exact .inl rfl) (by kernel_rfl) (by kernel_rfl)

  have hz : (if (300:Int) < (if (0:Int) > q then (0:Int) else q) then (300:Int) else (if (0:Int) > q then (0:Int) else q)) = (N : Int) := by
    rw [hN]; split <;> split at * <;> omega
  exact rz_all (rz_loop N (by omega) N 0 (by omega)) ⟨rfl, by omega, by omega, by omega⟩ (by rw [tb_zero, List.nil_append]; exact rz_start N hz) hz
noncomputable def B24 : Code := codeOf Tryz.f24
noncomputable def E24 : Env := EV PP 27 []
theorem D24 {args outs : List S} {gout : List (Nat × S)} {e : Fin} {res : S} (hg : Goes E24 B24 (entry 0 args) e gout) (he : e = .normal ∨ e = .ret) (hle : Nat.ble args.length 27 = true)
    (hfin : finE (tabOf PP) gout Tryz.f24.results.toList args [] = some (outs, res)) : Den PP 24 args outs res :=
  den_tab (fn := Tryz.f24) (c := B24) (by kernel_rfl) (by kernel_rfl) (by kernel_rfl) (by kernel_rfl) hle hfin hg he
noncomputable def L24a : Code := sub [true, true, false, true, false, false] B24
def sRs (l m : List Fq) (n i : Nat) : List (Nat × S) := [(0, (FL l)), (1, (FL m)), (12, (num .i64 ((n : Nat) : Int))), (13, (num .i64 ((i : Nat) : Int)))]
theorem rsa_in  {l m : List Fq} {i n : Nat}  
    (h1 : Den PP 39 [(FS (l.getD i fz)), (FS (m.getD i fz))] [(FS (l.getD i fz)), (FS (m.getD i fz))] (bl true))
    (h2 : (decide (((i : Nat) : Int) < ((n : Nat) : Int))) = true)
    (h3 : idx l.length ((i : Nat) : Int))
    (h4 : idx m.length ((i : Nat) : Int))
    (h5 : inR .i64 (((i : Nat) : Int) + (1:Int)))
    (h6 : (((i : Nat) : Int) + (1:Int)) = (((i + 1) : Nat) : Int)) :
    Goes E24 L24a (sRs l m n i) .normal (sRs l m n (i + 1)) :=
  pathG [.r [] [0, 1, 12, 13, 14], .t true, .r [] [0, 1, 5, 12, 13, 14], .r [.c [(FS (l.getD i fz)), (FS (m.getD i fz))] [(FS (l.getD i fz)), (FS (m.getD i fz))] (bl true)] [0, 1, 5, 12, 13, 14, 25], .t false, .r [] [0, 1, 5, 12, 13, 14, 25]] ((cc h2 (cc h3 (cc h4 (cc (er ((l.getD i fz).neg)) (cc (fq ((l.getD i fz).n.length) 1 (wf ((l.getD i fz).n))) (cc (fq ((l.getD i fz).d.length) 1 (wf ((l.getD i fz).d))) (cc (er ((m.getD i fz).neg)) (cc (fq ((m.getD i fz).n.length) 1 (wf ((m.getD i fz).n))) (cc (fq ((m.getD i fz).d.length) 1 (wf ((m.getD i fz).d))) (cc h1 (cc (bn (er true)) (cc h5 (cc (fq l.length 3 (ff l)) (cc (fq m.length 3 (ff m)) (cc (er ((n : Nat) : Int)) (cc h6 nn))))))))))))))))) (by kernel_rfl)
theorem rsa_no  {l m : List Fq} {i n : Nat}  
    (h1 : Den PP 39 [(FS (l.getD i fz)), (FS (m.getD i fz))] [(FS (l.getD i fz)), (FS (m.getD i fz))] (bl false))
    (h2 : (decide (((i : Nat) : Int) < ((n : Nat) : Int))) = true)
    (h3 : idx l.length ((i : Nat) : Int))
    (h4 : idx m.length ((i : Nat) : Int)) :
    Goes E24 L24a (sRs l m n i) .ret [(4, (bl false))] :=
  pathG [.r [] [0, 1, 12, 13, 14], .t true, .r [] [0, 1, 5, 12, 13, 14], .r [.c [(FS (l.getD i fz)), (FS (m.getD i fz))] [(FS (l.getD i fz)), (FS (m.getD i fz))] (bl false)] [0, 1, 5, 12, 13, 14, 25], .t true, .r [] [0, 1, 4, 5, 12, 13, 14, 25]] ((cc h2 (cc h3 (cc h4 (cc (er ((l.getD i fz).neg)) (cc (fq ((l.getD i fz).n.length) 1 (wf ((l.getD i fz).n))) (cc (fq ((l.getD i fz).d.length) 1 (wf ((l.getD i fz).d))) (cc (er ((m.getD i fz).neg)) (cc (fq ((m.getD i fz).n.length) 1 (wf ((m.getD i fz).n))) (cc (fq ((m.getD i fz).d.length) 1 (wf ((m.getD i fz).d))) (cc h1 (cc (bn (er false)) (cc (er false) nn))))))))))))) (by kernel_rfl)
theorem rsa_out  {l m : List Fq} {i n : Nat}  
    (h1 : (decide (((i : Nat) : Int) < ((n : Nat) : Int))) = false) :
    Goes E24 L24a (sRs l m n i) (.exit 0) (sRs l m n i) :=
  pathG [.r [] [0, 1, 12, 13, 14], .t false] ((cc h1 (cc (fq l.length 3 (ff l)) (cc (fq m.length 3 (ff m)) (cc (er ((n : Nat) : Int)) (cc (er ((i : Nat) : Int)) nn)))))) (by kernel_rfl)
theorem rsa_len  {l m : List Fq}   
    (h1 : ((l.length : Int) != (m.length : Int)) = true) :
    Goes E24 B24 [(0, (FL l)), (1, (FL m))] .ret [(4, (bl false))] :=
  pathG [.r [] [0, 1, 4], .r [] [0, 1, 4, 10], .t true, .r [] [0, 1, 4, 10]] ((cc h1 (cc (er false) nn))) (by kernel_rfl)
theorem rsa_f  {l m : List Fq}   
    (h1 : Loops E24 L24a (sRs l m l.length 0) .ret [(4, (bl false))])
    (h2 : ((l.length : Int) != (m.length : Int)) = false) :
    Goes E24 B24 [(0, (FL l)), (1, (FL m))] .ret [(4, (bl false))] :=
  pathG [.r [] [0, 1, 4], .r [] [0, 1, 4, 10], .t false, .r [] [0, 1, 4, 10, 12, 13], .l (sRs l m l.length 0) .ret [(4, (bl false))]] ((cc h2 (cc (fq l.length 3 (ff l)) (cc (fq m.length 3 (ff m)) (cc (er (l.length : Int)) (cc (er (0:Int)) (cc h1 (cc (er false) nn)))))))) (by kernel_rfl)
theorem rsa_t  {l m : List Fq} {i n : Nat}  
    (h1 : Loops E24 L24a (sRs l m l.length 0) (.exit 0) (sRs l m n i))
    (h2 : ((l.length : Int) != (m.length : Int)) = false) :
    Goes E24 B24 [(0, (FL l)), (1, (FL m))] .ret [(4, (bl true))] :=
  pathG [.r [] [0, 1, 4], .r [] [0, 1, 4, 10], .t false, .r [] [0, 1, 4, 10, 12, 13], .l (sRs l m l.length 0) (.exit 0) (sRs l m n i), .r [] [0, 1, 4, 12, 13]] ((cc h2 (cc (fq l.length 3 (ff l)) (cc (fq m.length 3 (ff m)) (cc (er (l.length : Int)) (cc (er (0:Int)) (cc h1 (cc (er true) nn)))))))) (by kernel_rfl)

open Classical in
theorem rsa_loop (l m : List Fq) (he : l.length = m.length) (hl : l.length ≤ 1073741824) (hk : OkL 67108864 l) (hm : OkL 67108864 m) : ∀ (j i : Nat), i + j = l.length →
    (if ∃ k, i ≤ k ∧ k < l.length ∧ fv (l.getD k fz) ≠ fv (m.getD k fz) then Loops E24 L24a (sRs l m l.length i) .ret [(4, bl false)] else Loops E24 L24a (sRs l m l.length i) (.exit 0) (sRs l m l.length l.length)) := by
  intro j
  induction j with
  | zero =>
    intro i hi
    rw [if_neg (by rintro ⟨k, h1, h2, _⟩; omega)]
    refine .leave ?_ (fun h => by cases h)
    have : i = l.length := by omega
    subst this
    exact rsa_out (decide_eq_false (by omega))
  | succ j ih =>
    intro i hi
    have ht := ih (i + 1) (by omega)
    have hc := frac_same (l.getD i fz) (m.getD i fz) (hk i (by omega)) (hm i (by omega))
    by_cases e : fv (l.getD i fz) = fv (m.getD i fz)
    · rw [decide_eq_true e] at hc
      have step := rsa_in (n := l.length) hc (decide_eq_true (by omega)) ⟨by omega, by omega⟩ ⟨by omega, by omega⟩ (i64_ok (by omega) (by omega)) rfl
      by_cases h : ∃ k, i + 1 ≤ k ∧ k < l.length ∧ fv (l.getD k fz) ≠ fv (m.getD k fz)
      · rw [if_pos h] at ht
        rw [if_pos (by obtain ⟨k, h1, h2, h3⟩ := h; exact ⟨k, by omega, h2, h3⟩)]
        exact Loops.again step ht
      · rw [if_neg h] at ht
        rw [if_neg (by
          rintro ⟨k, h1, h2, h3⟩
          rcases Nat.eq_or_lt_of_le h1 with h4 | h4
          · subst h4; exact h3 e
          · exact h ⟨k, h4, h2, h3⟩)]
        exact Loops.again step ht
    · rw [decide_eq_false e] at hc
      rw [if_pos ⟨i, Nat.le_refl _, by omega, e⟩]
      exact .leave (rsa_no hc (decide_eq_true (by omega)) ⟨by omega, by omega⟩ ⟨by omega, by omega⟩) (fun h => by cases h)
theorem fvs_eq_of {l m : List Fq} (h : l.length = m.length) : (fvs l = fvs m) ↔ ∀ i, i < l.length → fv (l.getD i fz) = fv (m.getD i fz) := by
  constructor
  · intro hh i hi
    rw [← getD_fvs l i hi, ← getD_fvs m i (by omega), hh]
  · intro hh
    apply List.ext_getElem (by simp [fvs, h])
    intro i h1 h2
    have h3 : i < l.length := by simpa [fvs] using h1
    have := hh i h3
    simpa [fvs, List.getD, h3, (by omega : i < m.length)] using this
theorem row_same (l m : List Fq) (hl : l.length ≤ 1073741824) (hk : OkL 67108864 l) (hm : OkL 67108864 m) :
    Den PP 24 [FL l, FL m] [FL l, FL m] (bl (decide (fvs l = fvs m))) := by
  refine D24 (gout := [(4, bl (decide (fvs l = fvs m)))]) (e := .ret) ?_ (by first | exact .inr rfl | exact .inl rfl) (by kernel_rfl) (by kernel_rfl)

  by_cases he : l.length = m.length
  · have h := rsa_loop l m he hl hk hm l.length 0 (by omega)
    have e1 : ((l.length : Int) != (m.length : Int)) = false := by simp [he]
    by_cases hx : fvs l = fvs m
    · rw [if_neg (by rintro ⟨k, _, h2, h3⟩; exact h3 ((fvs_eq_of he).1 hx k h2))] at h
      rw [decide_eq_true hx]
      exact rsa_t h e1
    · rw [if_pos (Classical.byContradiction fun hn => hx ((fvs_eq_of he).2 fun i hi => Classical.byContradiction fun h3 => hn ⟨i, by omega, hi, h3⟩))] at h
      rw [decide_eq_false hx]
      exact rsa_f h e1
  · rw [decide_eq_false (fun h => he (by have := congrArg List.length h; simpa [fvs] using this) : ¬ fvs l = fvs m)]
    exact rsa_len (by simpa using by omega)
end Go.X
namespace Go.X
open Go Go.Proofs
noncomputable def B67 : Code := codeOf Tryz.f67
noncomputable def E67 : Env := EV PP 19 []
theorem D67 {args outs : List S} {gout : List (Nat × S)} {e : Fin} {res : S} (hg : Goes E67 B67 (entry 0 args) e gout) (he : e = .normal ∨ e = .ret) (hle : Nat.ble args.length 19 = true)
    (hfin : finE (tabOf PP) gout Tryz.f67.results.toList args [] = some (outs, res)) : Den PP 67 args outs res :=
  den_tab (fn := Tryz.f67) (c := B67) (by kernel_rfl) (by kernel_rfl) (by kernel_rfl) (by kernel_rfl) hle hfin hg he
noncomputable def L67a : Code := sub [true, true, false, true, false, false] B67
def sRn (l p : List Fq) (n i : Nat) : List (Nat × S) := [(0, (FL l)), (3, (FO p)), (6, (FL l)), (7, (num .i64 ((n : Nat) : Int))), (8, (num .i64 ((i : Nat) : Int)))]
def sRn0 (l : List Fq) (n i : Nat) : List (Nat × S) := [(0, (FL l)), (3, (.one false [(.app 0 0 (fun _ _ => .v undef))])), (6, (FL l)), (7, (num .i64 ((n : Nat) : Int))), (8, (num .i64 ((i : Nat) : Int)))]
theorem rwn_1  {l : List Fq} {i n : Nat} {k : Fq} 
    (h1 : Den PP 112 [(FS (l.getD i fz))] [(FS (l.getD i fz))] (FS k))
    (h2 : (decide (((i : Nat) : Int) < ((n : Nat) : Int))) = true)
    (h3 : idx l.length ((i : Nat) : Int))
    (h4 : room 1 56)
    (h5 : inR .i64 (((i : Nat) : Int) + (1:Int)))
    (h6 : 1 = ([k]).length ∧ FEq 1 3 (rowF 3 [(.d (.v (.bool k.neg))), (.d (.sf 1 k.n.length (wf k.n))), (.d (.sf 1 k.d.length (wf k.d)))]) (ff ([k])))
    (h7 : (((i : Nat) : Int) + (1:Int)) = (((i + 1) : Nat) : Int)) :
    Goes E67 L67a (sRn0 l n i) .normal (sRn l ([k]) n (i + 1)) :=
  pathG [.r [] [0, 3, 6, 7, 8, 9], .t true, .r [] [0, 3, 5, 6, 7, 8, 9], .r [.c [(FS (l.getD i fz))] [(FS (l.getD i fz))] (FS k), .n] [0, 3, 5, 6, 7, 8, 9], .r [] [0, 3, 5, 6, 7, 8, 9]] ((cc h2 (cc h3 (cc (er ((l.getD i fz).neg)) (cc (fq ((l.getD i fz).n.length) 1 (wf ((l.getD i fz).n))) (cc (fq ((l.getD i fz).d.length) 1 (wf ((l.getD i fz).d))) (cc h1 (cc h4 (cc h5 (cc (fq l.length 3 (ff l)) (cc h6 (cc (fq l.length 3 (ff l)) (cc (er ((n : Nat) : Int)) (cc h7 nn)))))))))))))) (by kernel_rfl)
theorem rwn_in  {p l : List Fq} {i n : Nat} {k : Fq} 
    (h1 : Den PP 112 [(FS (l.getD i fz))] [(FS (l.getD i fz))] (FS k))
    (h2 : (decide (((i : Nat) : Int) < ((n : Nat) : Int))) = true)
    (h3 : idx l.length ((i : Nat) : Int))
    (h4 : room (p.length + 1) 56)
    (h5 : inR .i64 (((i : Nat) : Int) + (1:Int)))
    (h6 : (p.length + 1) = (p ++ [k]).length ∧ FEq (p.length + 1) 3 (appF p.length (ff p) (rowF 3 [(.d (.v (.bool k.neg))), (.d (.sf 1 k.n.length (wf k.n))), (.d (.sf 1 k.d.length (wf k.d)))])) (ff (p ++ [k])))
    (h7 : (((i : Nat) : Int) + (1:Int)) = (((i + 1) : Nat) : Int)) :
    Goes E67 L67a (sRn l p n i) .normal (sRn l (p ++ [k]) n (i + 1)) :=
  pathG [.r [] [0, 3, 6, 7, 8, 9], .t true, .r [] [0, 3, 5, 6, 7, 8, 9], .r [.c [(FS (l.getD i fz))] [(FS (l.getD i fz))] (FS k)] [0, 3, 5, 6, 7, 8, 9], .r [] [0, 3, 5, 6, 7, 8, 9]] ((cc h2 (cc h3 (cc (er ((l.getD i fz).neg)) (cc (fq ((l.getD i fz).n.length) 1 (wf ((l.getD i fz).n))) (cc (fq ((l.getD i fz).d.length) 1 (wf ((l.getD i fz).d))) (cc h1 (cc h4 (cc h5 (cc (fq l.length 3 (ff l)) (cc h6 (cc (fq l.length 3 (ff l)) (cc (er ((n : Nat) : Int)) (cc h7 nn)))))))))))))) (by kernel_rfl)
theorem rwn_out  {p l : List Fq} {i n : Nat}  
    (h1 : (decide (((i : Nat) : Int) < ((n : Nat) : Int))) = false) :
    Goes E67 L67a (sRn l p n i) (.exit 0) (sRn l p n i) :=
  pathG [.r [] [0, 3, 6, 7, 8, 9], .t false] ((cc h1 (cc (fq l.length 3 (ff l)) (cc (fq p.length 3 (ff p)) (cc (fq l.length 3 (ff l)) (cc (er ((n : Nat) : Int)) (cc (er ((i : Nat) : Int)) nn))))))) (by kernel_rfl)
theorem rwn_o0  {l : List Fq} {i n : Nat}  
    (h1 : (decide (((i : Nat) : Int) < ((n : Nat) : Int))) = false) :
    Goes E67 L67a (sRn0 l n i) (.exit 0) (sRn0 l n i) :=
  pathG [.r [] [0, 3, 6, 7, 8, 9], .t false] ((cc h1 (cc (fq l.length 3 (ff l)) (cc (er 0) (cc (fq l.length 3 (ff l)) (cc (er ((n : Nat) : Int)) (cc (er ((i : Nat) : Int)) nn))))))) (by kernel_rfl)
theorem rwn_all  {p l : List Fq} {i n : Nat}  
    (h1 : Loops E67 L67a (sRn0 l n 0) (.exit 0) (sRn l p n i))
    (h2 : (l.length : Int) = ((n : Nat) : Int)) :
    Goes E67 B67 [(0, (FL l))] .ret [(2, (FO p))] :=
  pathG [.r [] [0, 2], .r [] [0, 2, 3], .r [] [0, 2, 3, 6, 7, 8], .l (sRn0 l n 0) (.exit 0) (sRn l p n i), .r [.m true] [0, 2, 3, 6, 7, 8]] ((cc (fq l.length 3 (ff l)) (cc (er 0) (cc (fq l.length 3 (ff l)) (cc h2 (cc (er (0:Int)) (cc h1 (cc (fq p.length 3 (ff p)) nn)))))))) (by kernel_rfl)
theorem rwn_nil  {l : List Fq} {i n : Nat}  
    (h1 : Loops E67 L67a (sRn0 l n 0) (.exit 0) (sRn0 l n i))
    (h2 : (l.length : Int) = ((n : Nat) : Int))
    (h3 : ([] : List Fq).length = 0) :
    Goes E67 B67 [(0, (FL l))] .ret [(2, (FL ([] : List Fq)))] :=
  pathG [.r [] [0, 2], .r [] [0, 2, 3], .r [] [0, 2, 3, 6, 7, 8], .l (sRn0 l n 0) (.exit 0) (sRn0 l n i), .r [] [0, 2, 3, 6, 7, 8]] ((cc (fq l.length 3 (ff l)) (cc (er 0) (cc (fq l.length 3 (ff l)) (cc h2 (cc (er (0:Int)) (cc h1 (cc h3 nn)))))))) (by kernel_rfl)

theorem rwn_loop (l : List Fq) (hl : l.length ≤ 1073741824) (hk : OkL 67108864 l) : ∀ (j i : Nat), i + j = l.length →
    Loops E67 L67a (sRn l (tb i fun i => rq (fv (l.getD i fz))) l.length i) (.exit 0) (sRn l (rqs (fvs l)) l.length l.length) := by
  intro j
  induction j with
  | zero =>
    intro i hi
    refine .leave ?_ (fun h => by cases h)
    have : i = l.length := by omega
    subst this
    rw [tb_map l fz (fun f => rq (fv f)), show l.map (fun f => rq (fv f)) = rqs (fvs l) by simp [rqs, fvs]]
    exact rwn_out (decide_eq_false (by omega))
  | succ j ih =>
    intro i hi
    have ht := ih (i + 1) (by omega)
    rw [tb_succ] at ht
    refine Loops.again ?_ ht
    exact rwn_in (frac_norm _ (hk i (by omega))) (decide_eq_true (by omega)) ⟨by omega, by omega⟩ (room_le (by rw [tb_len]; omega) (by omega)) (i64_ok (by omega) (by omega)) (ff_app _ _) rfl
theorem row_norm (l : List Fq) (h0 : l ≠ []) (hl : l.length ≤ 1073741824) (hk : OkL 67108864 l) :
    Den PP 67 [FL l] [FL l] (FO (rqs (fvs l))) := by
  refine D67 (gout := [(2, FO (rqs (fvs l)))]) (e := .ret) ?_ (by first | exact .inr rfl | exact .inl rfl) (by kernel_rfl) (by kernel_rfl)

  have hpos : 0 < l.length := List.length_pos_iff.2 h0
  have hh := rwn_loop l hl hk (l.length - 1) 1 (by omega)
  have h1 := rwn_1 (l := l) (i := 0) (n := l.length) (frac_norm _ (hk 0 hpos)) (decide_eq_true (by omega)) ⟨by omega, by omega⟩ (room_le (by omega) (by omega)) (i64_ok (by omega) (by omega)) (ff_one _) rfl
  exact rwn_all (Loops.again h1 hh) rfl
theorem row_norm_nil  :
    Den PP 67 [FL []] [FL []] (FL []) := by
  refine D67 (gout := [(2, FL [])]) (e := .ret) ?_ (by first | exact .inr rfl | exact .inl rfl) (by kernel_rfl) (by kernel_rfl)

  exact rwn_nil (l := []) (n := 0) (i := 0) (.leave (rwn_o0 (l := []) (n := 0) (i := 0) (decide_eq_false (by omega))) (fun h => by cases h)) rfl rfl
noncomputable def B38 : Code := codeOf Tryz.f38
noncomputable def E38 : Env := EV PP 33 []
theorem D38 {args outs : List S} {gout : List (Nat × S)} {e : Fin} {res : S} (hg : Goes E38 B38 (entry 0 args) e gout) (he : e = .normal ∨ e = .ret) (hle : Nat.ble args.length 33 = true)
    (hfin : finE (tabOf PP) gout Tryz.f38.results.toList args [] = some (outs, res)) : Den PP 38 args outs res :=
  den_tab (fn := Tryz.f38) (c := B38) (by kernel_rfl) (by kernel_rfl) (by kernel_rfl) (by kernel_rfl) hle hfin hg he
noncomputable def L38a : Code := sub [true, true, true, false, true, false, false] B38
def sDr (l m : List Fq) (f : Fq) (n i : Nat) : List (Nat × S) := [(0, (FL l)), (1, (FL m)), (4, (BX 60 (FS ⟨false, ([] : List Nat), ([] : List Nat)⟩))), (6, (BX 60 (FS f))), (16, (FL l)), (17, (num .i64 ((n : Nat) : Int))), (18, (num .i64 ((i : Nat) : Int)))]
theorem dr_in  {l m : List Fq} {i n : Nat} {f k x : Fq} 
    (h1 : Den PP 82 [(FS (l.getD i fz)), (FS (m.getD i fz))] [(FS (l.getD i fz)), (FS (m.getD i fz))] (FS k))
    (h2 : Den PP 68 [(FS f), (FS k)] [(FS f), (FS k)] (FS x))
    (h3 : (decide (((i : Nat) : Int) < ((n : Nat) : Int))) = true)
    (h4 : idx l.length ((i : Nat) : Int))
    (h5 : idx m.length ((i : Nat) : Int))
    (h6 : inR .i64 (((i : Nat) : Int) + (1:Int)))
    (h7 : (((i : Nat) : Int) + (1:Int)) = (((i + 1) : Nat) : Int)) :
    Goes E38 L38a (sDr l m f n i) .normal (sDr l m x n (i + 1)) :=
  pathG [.r [] [0, 1, 4, 6, 16, 17, 18, 19], .t true, .r [] [0, 1, 4, 6, 7, 8, 16, 17, 18, 19], .r [.c [(FS (l.getD i fz)), (FS (m.getD i fz))] [(FS (l.getD i fz)), (FS (m.getD i fz))] (FS k), .c [(FS f), (FS k)] [(FS f), (FS k)] (FS x)] [0, 1, 4, 6, 7, 8, 16, 17, 18, 19], .r [] [0, 1, 4, 6, 7, 8, 16, 17, 18, 19]] ((cc h3 (cc h4 (cc h5 (cc (er ((l.getD i fz).neg)) (cc (fq ((l.getD i fz).n.length) 1 (wf ((l.getD i fz).n))) (cc (fq ((l.getD i fz).d.length) 1 (wf ((l.getD i fz).d))) (cc (er ((m.getD i fz).neg)) (cc (fq ((m.getD i fz).n.length) 1 (wf ((m.getD i fz).n))) (cc (fq ((m.getD i fz).d.length) 1 (wf ((m.getD i fz).d))) (cc h1 (cc (er f.neg) (cc (fq f.n.length 1 (wf f.n)) (cc (fq f.d.length 1 (wf f.d)) (cc (er k.neg) (cc (fq k.n.length 1 (wf k.n)) (cc (fq k.d.length 1 (wf k.d)) (cc h2 (cc h6 (cc (fq l.length 3 (ff l)) (cc (fq m.length 3 (ff m)) (cc (er false) (cc (fq (([] : List Nat).length) 1 (wf ([] : List Nat))) (cc (fq (([] : List Nat).length) 1 (wf ([] : List Nat))) (cc (er x.neg) (cc (fq x.n.length 1 (wf x.n)) (cc (fq x.d.length 1 (wf x.d)) (cc (fq l.length 3 (ff l)) (cc (er ((n : Nat) : Int)) (cc h7 nn)))))))))))))))))))))))))))))) (by kernel_rfl)
theorem dr_out  {l m : List Fq} {i n : Nat} {f : Fq} 
    (h1 : (decide (((i : Nat) : Int) < ((n : Nat) : Int))) = false) :
    Goes E38 L38a (sDr l m f n i) (.exit 0) (sDr l m f n i) :=
  pathG [.r [] [0, 1, 4, 6, 16, 17, 18, 19], .t false] ((cc h1 (cc (fq l.length 3 (ff l)) (cc (fq m.length 3 (ff m)) (cc (er false) (cc (fq (([] : List Nat).length) 1 (wf ([] : List Nat))) (cc (fq (([] : List Nat).length) 1 (wf ([] : List Nat))) (cc (er f.neg) (cc (fq f.n.length 1 (wf f.n)) (cc (fq f.d.length 1 (wf f.d)) (cc (fq l.length 3 (ff l)) (cc (er ((n : Nat) : Int)) (cc (er ((i : Nat) : Int)) nn))))))))))))) (by kernel_rfl)
theorem dr_all  {l m : List Fq} {i n : Nat} {f k : Fq} 
    (h1 : Den PP 35 [(num .i64 (0:Int))] [(num .i64 (0:Int))] (FS k))
    (h2 : Loops E38 L38a (sDr l m k n 0) (.exit 0) (sDr l m f n i))
    (h3 : ((l.length : Int) != (m.length : Int)) = false)
    (h4 : ([] : List Nat).length = 0)
    (h5 : (l.length : Int) = ((n : Nat) : Int)) :
    Goes E38 B38 [(0, (FL l)), (1, (FL m))] .ret [(4, (BX 60 (FS f))), (5, (bl true))] :=
  pathG [.r [] [0, 1, 4, 5], .r [.c [(num .i64 (0:Int))] [(num .i64 (0:Int))] (FS k)] [0, 1, 4, 5, 6], .r [] [0, 1, 4, 5, 6, 14], .t false, .r [] [0, 1, 4, 5, 6, 14, 16, 17, 18], .l (sDr l m k n 0) (.exit 0) (sDr l m f n i), .r [] [0, 1, 4, 5, 6, 16, 17, 18]] ((cc (er (0:Int)) (cc h1 (cc h3 (cc (fq l.length 3 (ff l)) (cc (fq m.length 3 (ff m)) (cc (er false) (cc h4 (cc h4 (cc (er k.neg) (cc (fq k.n.length 1 (wf k.n)) (cc (fq k.d.length 1 (wf k.d)) (cc (fq l.length 3 (ff l)) (cc h5 (cc (er (0:Int)) (cc h2 (cc (er f.neg) (cc (fq f.n.length 1 (wf f.n)) (cc (fq f.d.length 1 (wf f.d)) (cc (er true) nn)))))))))))))))))))) (by kernel_rfl)
theorem dr_len  {l m : List Fq}  {k : Fq} 
    (h1 : Den PP 35 [(num .i64 (0:Int))] [(num .i64 (0:Int))] (FS k))
    (h2 : ((l.length : Int) != (m.length : Int)) = true) :
    Goes E38 B38 [(0, (FL l)), (1, (FL m))] .ret [(4, (BX 60 (FS k))), (5, (bl false))] :=
  pathG [.r [] [0, 1, 4, 5], .r [.c [(num .i64 (0:Int))] [(num .i64 (0:Int))] (FS k)] [0, 1, 4, 5, 6], .r [] [0, 1, 4, 5, 6, 14], .t true, .r [] [0, 1, 4, 5, 6, 14]] ((cc (er (0:Int)) (cc h1 (cc h2 (cc (er k.neg) (cc (fq k.n.length 1 (wf k.n)) (cc (fq k.d.length 1 (wf k.d)) (cc (er false) nn)))))))) (by kernel_rfl)

/-- the sum of the first so many products of two rows -/
def dotF (l m : List Fq) : Nat → Rat
  | 0 => 0
  | i + 1 => dotF l m i + fv (l.getD i fz) * fv (m.getD i fz)
theorem dotF_eq (l m : List Fq) (he : l.length = m.length) : ∀ i, i ≤ l.length → dotF l m i = dotN (fvs l) (fvs m) i
  | 0, _ => rfl
  | i + 1, h => by
    show dotF l m i + _ = dotN (fvs l) (fvs m) i + _
    rw [dotF_eq l m he i (by omega), getD_fvs _ _ (by omega), getD_fvs _ _ (by omega)]
structure DotOkF (K : Nat) (l m : List Fq) : Prop where
  a : OkL K l
  b : OkL K m
  s : ∀ i, i ≤ l.length → Ok K (rq (dotN (fvs l) (fvs m) i))
  p : ∀ i, i < l.length → Ok K (rq (fv (l.getD i fz) * fv (m.getD i fz)))
theorem dr_loop (l m : List Fq) (he : l.length = m.length) (hl : l.length ≤ 1073741824) (hk : DotOkF 67108864 l m) : ∀ (j i : Nat), i + j = l.length →
    Loops E38 L38a (sDr l m (rq (dotN (fvs l) (fvs m) i)) l.length i) (.exit 0) (sDr l m (rq (dotQ (fvs l) (fvs m))) l.length l.length) := by
  intro j
  induction j with
  | zero =>
    intro i hi
    refine .leave ?_ (fun h => by cases h)
    have : i = l.length := by omega
    subst this
    have : dotQ (fvs l) (fvs m) = dotN (fvs l) (fvs m) l.length := by unfold dotQ; rw [fvs_len]
    rw [this]
    exact dr_out (decide_eq_false (by omega))
  | succ j ih =>
    intro i hi
    have ht := ih (i + 1) (by omega)
    refine Loops.again ?_ ht
    have c1 := frac_mul (l.getD i fz) (m.getD i fz) (hk.a i (by omega)) (hk.b i (by omega))
    have c2 := frac_add (rq (dotN (fvs l) (fvs m) i)) (rq (fv (l.getD i fz) * fv (m.getD i fz))) (hk.s i (by omega)) (hk.p i (by omega))
    rw [fv_rq, fv_rq] at c2
    have e : dotN (fvs l) (fvs m) i + fv (l.getD i fz) * fv (m.getD i fz) = dotN (fvs l) (fvs m) (i + 1) := by
      show _ = dotN (fvs l) (fvs m) i + _
      rw [getD_fvs _ _ (by omega), getD_fvs _ _ (by omega)]
    rw [e] at c2
    exact dr_in c1 c2 (decide_eq_true (by omega)) ⟨by omega, by omega⟩ ⟨by omega, by omega⟩ (i64_ok (by omega) (by omega)) rfl
theorem row_dot (l m : List Fq) (he : l.length = m.length) (hl : l.length ≤ 1073741824) (hk : DotOkF 67108864 l m) :
    Den PP 38 [FL l, FL m] [FL l, FL m] (.tup [fsc (rq (dotQ (fvs l) (fvs m))), bc true]) := by
  refine D38 (gout := [(4, BX 60 (FS (rq (dotQ (fvs l) (fvs m))))), (5, bl true)]) (e := .ret) ?_ (by first | exact .inr rfl | exact .inl rfl) (by kernel_rfl) (by kernel_rfl)

  exact dr_all (frac_of 0 (by omega) (by omega)) (dr_loop l m he hl hk l.length 0 (by omega)) (by simp [he]) rfl rfl
theorem row_dot_no (l m : List Fq) (he : l.length ≠ m.length) :
    Den PP 38 [FL l, FL m] [FL l, FL m] (.tup [fsc (rq 0), bc false]) := by
  refine D38 (gout := [(4, BX 60 (FS (rq 0))), (5, bl false)]) (e := .ret) ?_ (by first | exact .inr rfl | exact .inl rfl) (by kernel_rfl) (by kernel_rfl)

  exact dr_len (frac_of 0 (by omega) (by omega)) (by simpa using by omega)
end Go.X
namespace Go.X
open Go Go.Proofs
noncomputable def B22 : Code := codeOf Tryz.f22
noncomputable def E22 : Env := EV PP 47 []
theorem D22 {args outs : List S} {gout : List (Nat × S)} {e : Fin} {res : S} (hg : Goes E22 B22 (entry 0 args) e gout) (he : e = .normal ∨ e = .ret) (hle : Nat.ble args.length 47 = true)
    (hfin : finE (tabOf PP) gout Tryz.f22.results.toList args [] = some (outs, res)) : Den PP 22 args outs res :=
  den_tab (fn := Tryz.f22) (c := B22) (by kernel_rfl) (by kernel_rfl) (by kernel_rfl) (by kernel_rfl) hle hfin hg he
noncomputable def L22a : Code := sub [true, true, true, false, true, false, false] B22
noncomputable def L22b : Code := sub [true, true, true, false, true, false, false, true, true, false, false, true, true, true, false, false] B22
def sAo (a b p : List Fq) (i : Nat) : List (Nat × S) := [(0, (FLL ([a, b]))), (4, (FO p)), (17, (FLL ([b]))), (18, (num .i64 (1:Int))), (19, (num .i64 ((i : Nat) : Int)))]
def sAi (a b p : List Fq) (i : Nat) : List (Nat × S) := [(0, (FLL ([a, b]))), (4, (FO p)), (6, (FL b)), (17, (FLL ([b]))), (18, (num .i64 (1:Int))), (19, (num .i64 (0:Int))), (28, (FL b)), (29, (num .i64 ((b.length : Nat) : Int))), (30, (num .i64 ((i : Nat) : Int)))]
theorem ad_in  {p a b : List Fq} {i : Nat} {k : Fq} 
    (h1 : Den PP 68 [(FS (p.getD i fz)), (FS (b.getD i fz))] [(FS (p.getD i fz)), (FS (b.getD i fz))] (FS k))
    (h2 : (decide (((i : Nat) : Int) < ((b.length : Nat) : Int))) = true)
    (h3 : idx b.length ((i : Nat) : Int))
    (h4 : idx p.length ((i : Nat) : Int))
    (h5 : inR .i64 (((i : Nat) : Int) + (1:Int)))
    (h6 : p.length = (p.set i k).length ∧ FEq p.length 3 (updF (ff p) (Int.toNat ((i : Nat) : Int)) 0 [(.d (.v (.bool k.neg))), (.d (.sf 1 k.n.length (wf k.n))), (.d (.sf 1 k.d.length (wf k.d)))]) (ff (p.set i k)))
    (h7 : (((i : Nat) : Int) + (1:Int)) = (((i + 1) : Nat) : Int)) :
    Goes E22 L22b (sAi a b p i) .normal (sAi a b (p.set i k) (i + 1)) :=
  pathG [.r [] [0, 4, 6, 17, 18, 19, 28, 29, 30, 31], .t true, .r [] [0, 4, 6, 7, 8, 17, 18, 19, 28, 29, 30, 31], .r [.c [(FS (p.getD i fz)), (FS (b.getD i fz))] [(FS (p.getD i fz)), (FS (b.getD i fz))] (FS k)] [0, 4, 6, 7, 8, 17, 18, 19, 28, 29, 30, 31], .r [] [0, 4, 6, 7, 8, 17, 18, 19, 28, 29, 30, 31]] ((cc h2 (cc h3 (cc h4 (cc (er ((p.getD i fz).neg)) (cc (fq ((p.getD i fz).n.length) 1 (wf ((p.getD i fz).n))) (cc (fq ((p.getD i fz).d.length) 1 (wf ((p.getD i fz).d))) (cc (er ((b.getD i fz).neg)) (cc (fq ((b.getD i fz).n.length) 1 (wf ((b.getD i fz).n))) (cc (fq ((b.getD i fz).d.length) 1 (wf ((b.getD i fz).d))) (cc h1 (cc h4 (cc h5 (cc (fq (([a, b]).length) 1 (fff ([a, b]))) (cc h6 (cc (fq b.length 3 (ff b)) (cc (fq (([b]).length) 1 (fff ([b]))) (cc (er (1:Int)) (cc (er (0:Int)) (cc (fq b.length 3 (ff b)) (cc (er ((b.length : Nat) : Int)) (cc h7 nn)))))))))))))))))))))) (by kernel_rfl)
theorem ad_io  {p a b : List Fq} {i : Nat}  
    (h1 : (decide (((i : Nat) : Int) < ((b.length : Nat) : Int))) = false) :
    Goes E22 L22b (sAi a b p i) (.exit 2) (sAi a b p i) :=
  pathG [.r [] [0, 4, 6, 17, 18, 19, 28, 29, 30, 31], .t false] ((cc h1 (cc (fq (([a, b]).length) 1 (fff ([a, b]))) (cc (fq p.length 3 (ff p)) (cc (fq b.length 3 (ff b)) (cc (fq (([b]).length) 1 (fff ([b]))) (cc (er (1:Int)) (cc (er (0:Int)) (cc (fq b.length 3 (ff b)) (cc (er ((b.length : Nat) : Int)) (cc (er ((i : Nat) : Int)) nn))))))))))) (by kernel_rfl)
theorem ad_it  {p a b d : List Fq} {n : Nat}  
    (h1 : Loops E22 L22b (sAi a b p 0) (.exit 2) (sAi a b d n))
    (h2 : (decide (((0 : Nat) : Int) < (1:Int))) = true)
    (h3 : idx (([b]).length) ((0 : Nat) : Int))
    (h4 : (((([b]).getD (Int.toNat ((0 : Nat) : Int)) []).length : Int) != (p.length : Int)) = false)
    (h5 : (([b]).getD (Int.toNat ((0 : Nat) : Int)) []).length = b.length ∧ FEq ((([b]).getD (Int.toNat ((0 : Nat) : Int)) []).length) 3 (ff (([b]).getD (Int.toNat ((0 : Nat) : Int)) [])) (ff b))
    (h6 : ((([b]).getD (Int.toNat ((0 : Nat) : Int)) []).length : Int) = ((b.length : Nat) : Int))
    (h7 : inR .i64 ((0:Int) + (1:Int)))
    (h8 : ((0:Int) + (1:Int)) = ((1 : Nat) : Int)) :
    Goes E22 L22a (sAo a b p 0) .normal (sAo a b d 1) :=
  pathG [.r [] [0, 4, 17, 18, 19, 20], .t true, .r [] [0, 4, 6, 17, 18, 19, 20], .r [] [0, 4, 6, 17, 18, 19, 20, 27], .t false, .r [] [0, 4, 6, 17, 18, 19, 20, 27, 28, 29, 30], .l (sAi a b p 0) (.exit 2) (sAi a b d n), .r [] [0, 4, 6, 17, 18, 19, 28, 29, 30]] ((cc h2 (cc h3 (cc h4 (cc (fq (([a, b]).length) 1 (fff ([a, b]))) (cc (fq p.length 3 (ff p)) (cc h5 (cc (fq (([b]).length) 1 (fff ([b]))) (cc (er (1:Int)) (cc (er ((0 : Nat) : Int)) (cc h5 (cc h6 (cc (er (0:Int)) (cc h1 (cc h7 (cc (fq (([a, b]).length) 1 (fff ([a, b]))) (cc (fq d.length 3 (ff d)) (cc (fq (([b]).length) 1 (fff ([b]))) (cc (er (1:Int)) (cc h8 nn)))))))))))))))))))) (by kernel_rfl)
theorem ad_ne  {p a b : List Fq}   
    (h1 : (decide (((0 : Nat) : Int) < (1:Int))) = true)
    (h2 : idx (([b]).length) ((0 : Nat) : Int))
    (h3 : (((([b]).getD (Int.toNat ((0 : Nat) : Int)) []).length : Int) != (p.length : Int)) = true)
    (h4 : ([] : List Fq).length = 0) :
    Goes E22 L22a (sAo a b p 0) .ret [(2, (FL ([] : List Fq))), (3, (bl false))] :=
  pathG [.r [] [0, 4, 17, 18, 19, 20], .t true, .r [] [0, 4, 6, 17, 18, 19, 20], .r [] [0, 4, 6, 17, 18, 19, 20, 27], .t true, .r [] [0, 2, 3, 4, 6, 17, 18, 19, 20, 27]] ((cc h1 (cc h2 (cc h3 (cc h4 (cc (er false) nn)))))) (by kernel_rfl)
theorem ad_out  {p a b : List Fq} {i : Nat}  
    (h1 : (decide (((i : Nat) : Int) < (1:Int))) = false) :
    Goes E22 L22a (sAo a b p i) (.exit 0) (sAo a b p i) :=
  pathG [.r [] [0, 4, 17, 18, 19, 20], .t false] ((cc h1 (cc (fq (([a, b]).length) 1 (fff ([a, b]))) (cc (fq p.length 3 (ff p)) (cc (fq (([b]).length) 1 (fff ([b]))) (cc (er (1:Int)) (cc (er ((i : Nat) : Int)) nn))))))) (by kernel_rfl)
theorem ad_all  {p a b d : List Fq}   
    (h1 : Den PP 67 [(FL a)] [(FL a)] (FO p))
    (h2 : Loops E22 L22a (sAo a b p 0) (.exit 0) (sAo a b d 1))
    (h3 : ((([a, b]).length : Int) == (0:Int)) = false)
    (h4 : idx (([a, b]).length) (0:Int))
    (h5 : (([a, b]).getD (Int.toNat (0:Int)) []).length = a.length ∧ FEq ((([a, b]).getD (Int.toNat (0:Int)) []).length) 3 (ff (([a, b]).getD (Int.toNat (0:Int)) [])) (ff a))
    (h6 : 0 ≤ (1:Int) ∧ (1:Int) ≤ (([a, b]).length : Int) ∧ (([a, b]).length : Int) ≤ (([a, b]).length : Int))
    (h7 : ((Int.toNat (([a, b]).length : Int)) - (Int.toNat (1:Int))) = ([b]).length ∧ FEq ((Int.toNat (([a, b]).length : Int)) - (Int.toNat (1:Int))) 1 (fun jq => (fff ([a, b])) ((Int.toNat (1:Int)) + jq)) (fff ([b])))
    (h8 : (((Int.toNat (([a, b]).length : Int)) - (Int.toNat (1:Int))) : Int) = (1:Int)) :
    Goes E22 B22 [(0, (FLL ([a, b])))] .ret [(2, (FL d)), (3, (bl true))] :=
  pathG [.r [] [0, 2, 3], .r [] [0, 2, 3, 11], .t false, .r [.c [(FL a)] [(FL a)] (FO p)] [0, 2, 3, 4, 11], .r [] [0, 2, 3, 4, 11, 17, 18, 19], .l (sAo a b p 0) (.exit 0) (sAo a b d 1), .f 4, .r [] [0, 2, 3, 4, 17, 18, 19]] ((cc h3 (cc h4 (cc h5 (cc h1 (cc h6 (cc (fq (([a, b]).length) 1 (fff ([a, b]))) (cc (fq p.length 3 (ff p)) (cc h7 (cc h8 (cc (er (0:Int)) (cc h2 (cc (fq d.length 3 (ff d)) (cc (er true) nn)))))))))))))) (by kernel_rfl)
theorem ad_bad  {p a b : List Fq}   
    (h1 : Den PP 67 [(FL a)] [(FL a)] (FO p))
    (h2 : Loops E22 L22a (sAo a b p 0) .ret [(2, (FL ([] : List Fq))), (3, (bl false))])
    (h3 : ((([a, b]).length : Int) == (0:Int)) = false)
    (h4 : idx (([a, b]).length) (0:Int))
    (h5 : (([a, b]).getD (Int.toNat (0:Int)) []).length = a.length ∧ FEq ((([a, b]).getD (Int.toNat (0:Int)) []).length) 3 (ff (([a, b]).getD (Int.toNat (0:Int)) [])) (ff a))
    (h6 : 0 ≤ (1:Int) ∧ (1:Int) ≤ (([a, b]).length : Int) ∧ (([a, b]).length : Int) ≤ (([a, b]).length : Int))
    (h7 : ((Int.toNat (([a, b]).length : Int)) - (Int.toNat (1:Int))) = ([b]).length ∧ FEq ((Int.toNat (([a, b]).length : Int)) - (Int.toNat (1:Int))) 1 (fun jq => (fff ([a, b])) ((Int.toNat (1:Int)) + jq)) (fff ([b])))
    (h8 : (((Int.toNat (([a, b]).length : Int)) - (Int.toNat (1:Int))) : Int) = (1:Int)) :
    Goes E22 B22 [(0, (FLL ([a, b])))] .ret [(2, (FL ([] : List Fq))), (3, (bl false))] :=
  pathG [.r [] [0, 2, 3], .r [] [0, 2, 3, 11], .t false, .r [.c [(FL a)] [(FL a)] (FO p)] [0, 2, 3, 4, 11], .r [] [0, 2, 3, 4, 11, 17, 18, 19], .l (sAo a b p 0) .ret [(2, (FL ([] : List Fq))), (3, (bl false))]] ((cc h3 (cc h4 (cc h5 (cc h1 (cc h6 (cc (fq (([a, b]).length) 1 (fff ([a, b]))) (cc (fq p.length 3 (ff p)) (cc h7 (cc h8 (cc (er (0:Int)) (cc h2 (cc (fq (([] : List Fq).length) 3 (ff ([] : List Fq))) (cc (er false) nn)))))))))))))) (by kernel_rfl)
def sAeo (a b p : List Fq) (i : Nat) : List (Nat × S) := [(0, (FLL ([a, b]))), (4, (FL p)), (17, (FLL ([b]))), (18, (num .i64 (1:Int))), (19, (num .i64 ((i : Nat) : Int)))]
def sAei (a b p : List Fq) (i : Nat) : List (Nat × S) := [(0, (FLL ([a, b]))), (4, (FL p)), (6, (FL b)), (17, (FLL ([b]))), (18, (num .i64 (1:Int))), (19, (num .i64 (0:Int))), (28, (FL b)), (29, (num .i64 ((b.length : Nat) : Int))), (30, (num .i64 ((i : Nat) : Int)))]
theorem ae_io  {p a b : List Fq} {i : Nat}  
    (h1 : (decide (((i : Nat) : Int) < ((b.length : Nat) : Int))) = false) :
    Goes E22 L22b (sAei a b p i) (.exit 2) (sAei a b p i) :=
  pathG [.r [] [0, 4, 6, 17, 18, 19, 28, 29, 30, 31], .t false] ((cc h1 (cc (fq (([a, b]).length) 1 (fff ([a, b]))) (cc (fq p.length 3 (ff p)) (cc (fq b.length 3 (ff b)) (cc (fq (([b]).length) 1 (fff ([b]))) (cc (er (1:Int)) (cc (er (0:Int)) (cc (fq b.length 3 (ff b)) (cc (er ((b.length : Nat) : Int)) (cc (er ((i : Nat) : Int)) nn))))))))))) (by kernel_rfl)
theorem ae_it  {p a b : List Fq} {n : Nat}  
    (h1 : Loops E22 L22b (sAei a b p 0) (.exit 2) (sAei a b p n))
    (h2 : (decide (((0 : Nat) : Int) < (1:Int))) = true)
    (h3 : idx (([b]).length) ((0 : Nat) : Int))
    (h4 : (((([b]).getD (Int.toNat ((0 : Nat) : Int)) []).length : Int) != (p.length : Int)) = false)
    (h5 : (([b]).getD (Int.toNat ((0 : Nat) : Int)) []).length = b.length ∧ FEq ((([b]).getD (Int.toNat ((0 : Nat) : Int)) []).length) 3 (ff (([b]).getD (Int.toNat ((0 : Nat) : Int)) [])) (ff b))
    (h6 : ((([b]).getD (Int.toNat ((0 : Nat) : Int)) []).length : Int) = ((b.length : Nat) : Int))
    (h7 : inR .i64 ((0:Int) + (1:Int)))
    (h8 : ((0:Int) + (1:Int)) = ((1 : Nat) : Int)) :
    Goes E22 L22a (sAeo a b p 0) .normal (sAeo a b p 1) :=
  pathG [.r [] [0, 4, 17, 18, 19, 20], .t true, .r [] [0, 4, 6, 17, 18, 19, 20], .r [] [0, 4, 6, 17, 18, 19, 20, 27], .t false, .r [] [0, 4, 6, 17, 18, 19, 20, 27, 28, 29, 30], .l (sAei a b p 0) (.exit 2) (sAei a b p n), .r [] [0, 4, 6, 17, 18, 19, 28, 29, 30]] ((cc h2 (cc h3 (cc h4 (cc (fq (([a, b]).length) 1 (fff ([a, b]))) (cc (fq p.length 3 (ff p)) (cc h5 (cc (fq (([b]).length) 1 (fff ([b]))) (cc (er (1:Int)) (cc (er ((0 : Nat) : Int)) (cc h5 (cc h6 (cc (er (0:Int)) (cc h1 (cc h7 (cc (fq (([a, b]).length) 1 (fff ([a, b]))) (cc (fq p.length 3 (ff p)) (cc (fq (([b]).length) 1 (fff ([b]))) (cc (er (1:Int)) (cc h8 nn)))))))))))))))))))) (by kernel_rfl)
theorem ae_ne  {p a b : List Fq}   
    (h1 : (decide (((0 : Nat) : Int) < (1:Int))) = true)
    (h2 : idx (([b]).length) ((0 : Nat) : Int))
    (h3 : (((([b]).getD (Int.toNat ((0 : Nat) : Int)) []).length : Int) != (p.length : Int)) = true)
    (h4 : ([] : List Fq).length = 0) :
    Goes E22 L22a (sAeo a b p 0) .ret [(2, (FL ([] : List Fq))), (3, (bl false))] :=
  pathG [.r [] [0, 4, 17, 18, 19, 20], .t true, .r [] [0, 4, 6, 17, 18, 19, 20], .r [] [0, 4, 6, 17, 18, 19, 20, 27], .t true, .r [] [0, 2, 3, 4, 6, 17, 18, 19, 20, 27]] ((cc h1 (cc h2 (cc h3 (cc h4 (cc (er false) nn)))))) (by kernel_rfl)
theorem ae_out  {p a b : List Fq} {i : Nat}  
    (h1 : (decide (((i : Nat) : Int) < (1:Int))) = false) :
    Goes E22 L22a (sAeo a b p i) (.exit 0) (sAeo a b p i) :=
  pathG [.r [] [0, 4, 17, 18, 19, 20], .t false] ((cc h1 (cc (fq (([a, b]).length) 1 (fff ([a, b]))) (cc (fq p.length 3 (ff p)) (cc (fq (([b]).length) 1 (fff ([b]))) (cc (er (1:Int)) (cc (er ((i : Nat) : Int)) nn))))))) (by kernel_rfl)
theorem ae_all  {p a b : List Fq}   
    (h1 : Den PP 67 [(FL a)] [(FL a)] (FL p))
    (h2 : Loops E22 L22a (sAeo a b p 0) (.exit 0) (sAeo a b p 1))
    (h3 : ((([a, b]).length : Int) == (0:Int)) = false)
    (h4 : idx (([a, b]).length) (0:Int))
    (h5 : (([a, b]).getD (Int.toNat (0:Int)) []).length = a.length ∧ FEq ((([a, b]).getD (Int.toNat (0:Int)) []).length) 3 (ff (([a, b]).getD (Int.toNat (0:Int)) [])) (ff a))
    (h6 : 0 ≤ (1:Int) ∧ (1:Int) ≤ (([a, b]).length : Int) ∧ (([a, b]).length : Int) ≤ (([a, b]).length : Int))
    (h7 : ((Int.toNat (([a, b]).length : Int)) - (Int.toNat (1:Int))) = ([b]).length ∧ FEq ((Int.toNat (([a, b]).length : Int)) - (Int.toNat (1:Int))) 1 (fun jq => (fff ([a, b])) ((Int.toNat (1:Int)) + jq)) (fff ([b])))
    (h8 : (((Int.toNat (([a, b]).length : Int)) - (Int.toNat (1:Int))) : Int) = (1:Int)) :
    Goes E22 B22 [(0, (FLL ([a, b])))] .ret [(2, (FL p)), (3, (bl true))] :=
  pathG [.r [] [0, 2, 3], .r [] [0, 2, 3, 11], .t false, .r [.c [(FL a)] [(FL a)] (FL p)] [0, 2, 3, 4, 11], .r [] [0, 2, 3, 4, 11, 17, 18, 19], .l (sAeo a b p 0) (.exit 0) (sAeo a b p 1), .r [] [0, 2, 3, 4, 17, 18, 19]] ((cc h3 (cc h4 (cc h5 (cc h1 (cc h6 (cc (fq (([a, b]).length) 1 (fff ([a, b]))) (cc (fq p.length 3 (ff p)) (cc h7 (cc h8 (cc (er (0:Int)) (cc h2 (cc (fq p.length 3 (ff p)) (cc (er true) nn)))))))))))))) (by kernel_rfl)
theorem ae_bad  {p a b : List Fq}   
    (h1 : Den PP 67 [(FL a)] [(FL a)] (FL p))
    (h2 : Loops E22 L22a (sAeo a b p 0) .ret [(2, (FL ([] : List Fq))), (3, (bl false))])
    (h3 : ((([a, b]).length : Int) == (0:Int)) = false)
    (h4 : idx (([a, b]).length) (0:Int))
    (h5 : (([a, b]).getD (Int.toNat (0:Int)) []).length = a.length ∧ FEq ((([a, b]).getD (Int.toNat (0:Int)) []).length) 3 (ff (([a, b]).getD (Int.toNat (0:Int)) [])) (ff a))
    (h6 : 0 ≤ (1:Int) ∧ (1:Int) ≤ (([a, b]).length : Int) ∧ (([a, b]).length : Int) ≤ (([a, b]).length : Int))
    (h7 : ((Int.toNat (([a, b]).length : Int)) - (Int.toNat (1:Int))) = ([b]).length ∧ FEq ((Int.toNat (([a, b]).length : Int)) - (Int.toNat (1:Int))) 1 (fun jq => (fff ([a, b])) ((Int.toNat (1:Int)) + jq)) (fff ([b])))
    (h8 : (((Int.toNat (([a, b]).length : Int)) - (Int.toNat (1:Int))) : Int) = (1:Int)) :
    Goes E22 B22 [(0, (FLL ([a, b])))] .ret [(2, (FL ([] : List Fq))), (3, (bl false))] :=
  pathG [.r [] [0, 2, 3], .r [] [0, 2, 3, 11], .t false, .r [.c [(FL a)] [(FL a)] (FL p)] [0, 2, 3, 4, 11], .r [] [0, 2, 3, 4, 11, 17, 18, 19], .l (sAeo a b p 0) .ret [(2, (FL ([] : List Fq))), (3, (bl false))]] ((cc h3 (cc h4 (cc h5 (cc h1 (cc h6 (cc (fq (([a, b]).length) 1 (fff ([a, b]))) (cc (fq p.length 3 (ff p)) (cc h7 (cc h8 (cc (er (0:Int)) (cc h2 (cc (fq (([] : List Fq).length) 3 (ff ([] : List Fq))) (cc (er false) nn)))))))))))))) (by kernel_rfl)

theorem fff_rest (a b : List Fq) : ((Int.toNat (([a, b]).length : Int)) - (Int.toNat (1:Int))) = ([b]).length ∧ FEq ((Int.toNat (([a, b]).length : Int)) - (Int.toNat (1:Int))) 1 (fun jq => (fff ([a, b])) ((Int.toNat (1:Int)) + jq)) (fff ([b])) := by
  refine ⟨rfl, fun j i hj hi => ?_⟩
  have h1 : j = 0 := by
    have : j < 1 := hj
    omega
  have h2 : i = 0 := by omega
  subst h1; subst h2
  exact D.eqv.refl _
theorem add_step (p : List Fq) (g : Nat → Fq) (i : Nat) (h : i < p.length) : (tb i g ++ p.drop i).set i (g i) = tb (i + 1) g ++ p.drop (i + 1) := by
  rw [List.set_append_right _ _ (by rw [tb_len]; omega), tb_len, Nat.sub_self, List.drop_eq_getElem_cons h, List.set_cons_zero, tb_succ, List.append_assoc]
  rfl
theorem add_get (p : List Fq) (g : Nat → Fq) (i : Nat) : (tb i g ++ p.drop i).getD i fz = p.getD i fz := by
  simp only [List.getD]
  rw [List.getElem?_append_right (by rw [tb_len]; omega), tb_len, Nat.sub_self, List.getElem?_drop]
  rfl
theorem ad_loop (a b : List Fq) (he : a.length = b.length) (hl : a.length ≤ 1073741824) (hb : OkL 67108864 b) (hr : OkL 67108864 (rqs (fvs a))) : ∀ (j i : Nat), i + j = a.length →
    Loops E22 L22b (sAi a b (tb i (fun k => rq (fv (a.getD k fz) + fv (b.getD k fz))) ++ (rqs (fvs a)).drop i) i) (.exit 2) (sAi a b (rqs (addQ (fvs a) (fvs b))) a.length) := by
  have hlr : (rqs (fvs a)).length = a.length := by rw [rqs_len, fvs_len]
  intro j
  induction j with
  | zero =>
    intro i hi
    refine .leave ?_ (fun h => by cases h)
    have : i = a.length := by omega
    subst this
    rw [List.drop_of_length_le (by omega), List.append_nil]
    have e : tb a.length (fun k => rq (fv (a.getD k fz) + fv (b.getD k fz))) = rqs (addQ (fvs a) (fvs b)) := by
      have e1 := tb_zip (fvs a) (fvs b) 0 0 (by rw [fvs_len, fvs_len, he]) (· + ·)
      rw [fvs_len] at e1
      show _ = rqs (List.zipWith (· + ·) (fvs a) (fvs b))
      rw [← e1, ← tb_rqs]
      refine tb_congr fun i hi => ?_
      rw [getD_fvs _ _ hi, getD_fvs _ _ (by omega)]
    rw [e]
    exact ad_io (decide_eq_false (by omega))
  | succ j ih =>
    intro i hi
    have ht := ih (i + 1) (by omega)
    rw [← add_step (rqs (fvs a)) (fun k => rq (fv (a.getD k fz) + fv (b.getD k fz))) i (by omega)] at ht
    refine Loops.again ?_ ht
    have hg := add_get (rqs (fvs a)) (fun k => rq (fv (a.getD k fz) + fv (b.getD k fz))) i
    have c := frac_add ((rqs (fvs a)).getD i fz) (b.getD i fz) (hr i (by omega)) (hb i (by omega))
    have e : fv ((rqs (fvs a)).getD i fz) = fv (a.getD i fz) := by
      rw [getD_rqs _ _ (by rw [fvs_len]; omega), fv_rq, getD_fvs _ _ (by omega)]
    rw [e] at c
    rw [← hg] at c
    have hll : i < (tb i (fun k => rq (fv (a.getD k fz) + fv (b.getD k fz))) ++ (rqs (fvs a)).drop i).length := by rw [List.length_append, tb_len, List.length_drop]; omega
    exact ad_in c (decide_eq_true (by omega)) ⟨by omega, by omega⟩ ⟨by omega, by omega⟩ (i64_ok (by omega) (by omega)) (ff_set _ _ _ hll) rfl
theorem one_in : inR .i64 ((0:Int) + (1:Int)) := i64_ok (by omega) (by omega)
theorem ab_two (a b : List Fq) : 0 ≤ (1:Int) ∧ (1:Int) ≤ (([a, b]).length : Int) ∧ (([a, b]).length : Int) ≤ (([a, b]).length : Int) := ⟨by omega, by show (1:Int) ≤ 2; omega, by omega⟩
theorem row_add (a b : List Fq) (he : a.length = b.length) (hl : a.length ≤ 1073741824) (ha : OkL 67108864 a) (hb : OkL 67108864 b) (hr : OkL 67108864 (rqs (fvs a))) :
    Den PP 22 [FLL [a, b]] [FLL [a, b]] (.tup [flc (rqs (addQ (fvs a) (fvs b))), bc true]) := by
  refine D22 (gout := [(2, FL (rqs (addQ (fvs a) (fvs b)))), (3, bl true)]) (e := .ret) ?_ (by first | exact .inr rfl | exact .inl rfl) (by kernel_rfl) (by kernel_rfl)

  have d1 : decide (((0 : Nat) : Int) < (1:Int)) = true := decide_eq_true (by omega)
  have d2 : decide (((1 : Nat) : Int) < (1:Int)) = false := decide_eq_false (by omega)
  have i1 : idx (([b]).length) ((0 : Nat) : Int) := ⟨by omega, by show (0:Int) < 1; omega⟩
  have i2 : idx (([a, b]).length) (0:Int) := ⟨by omega, by show (0:Int) < 2; omega⟩
  by_cases h0 : a = []
  · subst h0
    have hb0 : b = [] := List.length_eq_zero_iff.1 (by rw [← he]; rfl)
    subst hb0
    have l1 : Loops E22 L22b (sAei [] [] [] 0) (.exit 2) (sAei [] [] [] 0) := .leave (ae_io (decide_eq_false (by show ¬ ((0:Int) < 0); omega))) (fun h => by cases h)
    have l2 := Loops.again (ae_it l1 d1 i1 rfl (ff_same _) rfl one_in rfl) (.leave (ae_out d2) (fun h => by cases h))
    exact ae_all row_norm_nil l2 rfl i2 (ff_same _) (ab_two _ _) (fff_rest _ _) rfl
  · have hn := row_norm a h0 hl ha
    have l1 := ad_loop a b he hl hb hr a.length 0 (by omega)
    rw [tb_zero, List.nil_append, List.drop_zero] at l1
    have hlr : (rqs (fvs a)).length = a.length := by rw [rqs_len, fvs_len]
    have l2 := Loops.again (ad_it l1 d1 i1 (by show ((b.length : Int) != ((rqs (fvs a)).length : Int)) = false; rw [hlr, he]; simp) (ff_same _) rfl one_in rfl) (.leave (ad_out d2) (fun h => by cases h))
    exact ad_all hn l2 rfl i2 (ff_same _) (ab_two _ _) (fff_rest _ _) rfl
theorem row_add_no (a b : List Fq) (he : a.length ≠ b.length) (hl : a.length ≤ 1073741824) (ha : OkL 67108864 a) :
    Den PP 22 [FLL [a, b]] [FLL [a, b]] (.tup [flc [], bc false]) := by
  refine D22 (gout := [(2, FL []), (3, bl false)]) (e := .ret) ?_ (by first | exact .inr rfl | exact .inl rfl) (by kernel_rfl) (by kernel_rfl)

  have d1 : decide (((0 : Nat) : Int) < (1:Int)) = true := decide_eq_true (by omega)
  have i1 : idx (([b]).length) ((0 : Nat) : Int) := ⟨by omega, by show (0:Int) < 1; omega⟩
  have i2 : idx (([a, b]).length) (0:Int) := ⟨by omega, by show (0:Int) < 2; omega⟩
  by_cases h0 : a = []
  · subst h0
    have l2 := Loops.leave (ae_ne (p := []) (a := []) (b := b) d1 i1 (by show ((b.length : Int) != (0 : Int)) = true; simpa using fun h => he (by rw [h])) rfl) (fun h => by cases h)
    exact ae_bad row_norm_nil l2 rfl i2 (ff_same _) (ab_two _ _) (fff_rest _ _) rfl
  · have hn := row_norm a h0 hl ha
    have hlr : (rqs (fvs a)).length = a.length := by rw [rqs_len, fvs_len]
    have l2 := Loops.leave (ad_ne (p := rqs (fvs a)) (a := a) (b := b) d1 i1 (by show ((b.length : Int) != ((rqs (fvs a)).length : Int)) = true; rw [hlr]; simpa using by omega) rfl) (fun h => by cases h)
    exact ad_bad hn l2 rfl i2 (ff_same _) (ab_two _ _) (fff_rest _ _) rfl
end Go.X
