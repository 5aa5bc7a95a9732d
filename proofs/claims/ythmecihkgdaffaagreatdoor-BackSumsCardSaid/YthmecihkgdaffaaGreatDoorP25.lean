/- Part 25 of the proof of BackSums: Paths and contracts. Rows of rows of fractions; pairs of rows. Paths and contracts. No conditions but those that each theorem names. -/
import Derived.Test.YthmecihkgdaffaaGreatDoorP24
namespace Go.X
open Go Go.Proofs
noncomputable def B20 : Code := codeOf Tryz.f20
noncomputable def E20 : Env := EV PP 20 []
theorem D20 {args outs : List S} {gout : List (Nat × S)} {e : Fin} {res : S} (hg : Goes E20 B20 (entry 0 args) e gout) (he : e = .normal ∨ e = .ret) (hle : Nat.ble args.length 20 = true)
    (hfin : finE (tabOf PP) gout Tryz.f20.results.toList args [] = some (outs, res)) : Den PP 20 args outs res :=
  den_tab (fn := Tryz.f20) (c := B20) (by kernel_rfl) (by kernel_rfl) (by kernel_rfl) (by kernel_rfl) hle hfin hg he
noncomputable def L20a : Code := sub [true, true, false, true, false, false] B20
def sNms (l p : List Fq) (i : Nat) : List (Nat × S) := [(0, (FL l)), (3, (FA p)), (4, (num .i64 ((i : Nat) : Int)))]
theorem nms_in  {p l : List Fq} {i : Nat} {k : Fq} 
    (h1 : Den PP 19 [(FS (l.getD i fz))] [(FS (l.getD i fz))] (FS k))
    (h2 : (decide (((i : Nat) : Int) < (l.length : Int))) = true)
    (h3 : idx l.length ((i : Nat) : Int))
    (h4 : room (p.length + 1) 56)
    (h5 : inR .i64 (((i : Nat) : Int) + (1:Int)))
    (h6 : (p.length + 1) = (p ++ [k]).length ∧ FEq (p.length + 1) 3 (appF p.length (ff p) (rowF 3 [(.d (.v (.bool k.neg))), (.d (.sf 1 k.n.length (wf k.n))), (.d (.sf 1 k.d.length (wf k.d)))])) (ff (p ++ [k])))
    (h7 : (((i : Nat) : Int) + (1:Int)) = (((i + 1) : Nat) : Int)) :
    Goes E20 L20a (sNms l p i) .normal (sNms l (p ++ [k]) (i + 1)) :=
  pathG [.r [] [0, 3, 4, 8], .t true, .r [.c [(FS (l.getD i fz))] [(FS (l.getD i fz))] (FS k)] [0, 3, 4, 8], .r [] [0, 3, 4, 8]] ((cc h2 (cc h3 (cc (er ((l.getD i fz).neg)) (cc (fq ((l.getD i fz).n.length) 1 (wf ((l.getD i fz).n))) (cc (fq ((l.getD i fz).d.length) 1 (wf ((l.getD i fz).d))) (cc h1 (cc h4 (cc h5 (cc (fq l.length 3 (ff l)) (cc h6 (cc h7 nn)))))))))))) (by kernel_rfl)
theorem nms_out  {p l : List Fq} {i : Nat}  
    (h1 : (decide (((i : Nat) : Int) < (l.length : Int))) = false) :
    Goes E20 L20a (sNms l p i) (.exit 0) (sNms l p i) :=
  pathG [.r [] [0, 3, 4, 8], .t false] ((cc h1 (cc (fq l.length 3 (ff l)) (cc (fq p.length 3 (ff p)) (cc (er ((i : Nat) : Int)) nn))))) (by kernel_rfl)
theorem nms_all  {p l : List Fq} {i : Nat}  
    (h1 : Loops E20 L20a (sNms l ([] : List Fq) 0) (.exit 0) (sNms l p i))
    (h2 : ([] : List Fq).length = 0) :
    Goes E20 B20 [(0, (FL l))] .ret [(2, (FL p))] :=
  pathG [.r [] [0, 2], .r [] [0, 2, 3], .r [] [0, 2, 3, 4], .l (sNms l ([] : List Fq) 0) (.exit 0) (sNms l p i), .r [] [0, 2, 3, 4]] ((cc (fq l.length 3 (ff l)) (cc h2 (cc (er (0:Int)) (cc h1 (cc (fq p.length 3 (ff p)) nn)))))) (by kernel_rfl)

theorem nms_loop (l : List Fq) (hl : l.length ≤ 1073741824) (hk : OkL 134217728 l) : ∀ (j i : Nat), i + j = l.length →
    Loops E20 L20a (sNms l (tb i fun i => rq (fv (l.getD i fz))) i) (.exit 0) (sNms l (rqs (fvs l)) l.length) := by
  intro j
  induction j with
  | zero =>
    intro i hi
    refine .leave ?_ (fun h => by cases h)
    have : i = l.length := by omega
    subst this
    rw [tb_map l fz (fun f => rq (fv f)), show l.map (fun f => rq (fv f)) = rqs (fvs l) by simp [rqs, fvs]]
    exact nms_out (decide_eq_false (by omega))
  | succ j ih =>
    intro i hi
    have ht := ih (i + 1) (by omega)
    rw [tb_succ] at ht
    refine Loops.again ?_ ht
    refine nms_in (ref9_norm _ (hk i (by omega))) (decide_eq_true (by omega)) ⟨by omega, by omega⟩ (room_le (by rw [tb_len]; omega) (by omega)) (i64_ok (by omega) (by omega)) (ff_app _ _) rfl
theorem ref11_norms (l : List Fq) (hl : l.length ≤ 1073741824) (hk : OkL 134217728 l) :
    Den PP 20 [FL l] [FL l] (FL (rqs (fvs l))) := by
  refine D20 (gout := [(2, FL (rqs (fvs l)))]) (e := .ret) ?_ (by first | exact .inr rfl | exact .inl rfl) (by kernel_rfl) (by kernel_rfl)

  exact nms_all (nms_loop l hl hk l.length 0 (by omega)) rfl
noncomputable def B31 : Code := codeOf Tryz.f31
noncomputable def E31 : Env := EV PP 19 []
theorem D31 {args outs : List S} {gout : List (Nat × S)} {e : Fin} {res : S} (hg : Goes E31 B31 (entry 0 args) e gout) (he : e = .normal ∨ e = .ret) (hle : Nat.ble args.length 19 = true)
    (hfin : finE (tabOf PP) gout Tryz.f31.results.toList args [] = some (outs, res)) : Den PP 31 args outs res :=
  den_tab (fn := Tryz.f31) (c := B31) (by kernel_rfl) (by kernel_rfl) (by kernel_rfl) (by kernel_rfl) hle hfin hg he
noncomputable def L31a : Code := sub [true, true, false, true, false, false] B31
def sZer (q : Int) (p : List Fq) (i : Nat) : List (Nat × S) := [(0, (num .i64 q)), (3, (FA p)), (4, (num .i64 ((i : Nat) : Int)))]
theorem zer_in  {p : List Fq} {i : Nat} {k : Fq} {q : Int}
    (h1 : Den PP 27 [(num .i64 (0:Int))] [(num .i64 (0:Int))] (FS k))
    (h2 : (decide (((i : Nat) : Int) < q)) = true)
    (h3 : (decide (((i : Nat) : Int) < (300:Int))) = true)
    (h4 : room (p.length + 1) 56)
    (h5 : inR .i64 (((i : Nat) : Int) + (1:Int)))
    (h6 : (p.length + 1) = (p ++ [k]).length ∧ FEq (p.length + 1) 3 (appF p.length (ff p) (rowF 3 [(.d (.v (.bool k.neg))), (.d (.sf 1 k.n.length (wf k.n))), (.d (.sf 1 k.d.length (wf k.d)))])) (ff (p ++ [k])))
    (h7 : (((i : Nat) : Int) + (1:Int)) = (((i + 1) : Nat) : Int)) :
    Goes E31 L31a (sZer q p i) .normal (sZer q (p ++ [k]) (i + 1)) :=
  pathG [.r [.b true, .b true] [0, 3, 4, 11], .t true, .r [.c [(num .i64 (0:Int))] [(num .i64 (0:Int))] (FS k)] [0, 3, 4, 11], .r [] [0, 3, 4, 11]] ((cc h2 (cc h2 (cc tt (cc (bt false h2 h3) (cc (er (0:Int)) (cc h1 (cc h4 (cc h5 (cc (er q) (cc h6 (cc h7 nn)))))))))))) (by kernel_rfl)
theorem zer_out  {p : List Fq} {i : Nat}  {q : Int}
    (h1 : (decide (((i : Nat) : Int) < q)) = false) :
    Goes E31 L31a (sZer q p i) (.exit 0) (sZer q p i) :=
  pathG [.r [.b false, .b false] [0, 3, 4, 11], .t false] ((cc h1 (cc h1 (cc h1 (cc (er false) (cc (er q) (cc (fq p.length 3 (ff p)) (cc (er ((i : Nat) : Int)) nn)))))))) (by kernel_rfl)
theorem zer_300  {p : List Fq} {i : Nat}  {q : Int}
    (h1 : (decide (((i : Nat) : Int) < q)) = true)
    (h2 : (decide (((i : Nat) : Int) < (300:Int))) = false) :
    Goes E31 L31a (sZer q p i) (.exit 0) (sZer q p i) :=
  pathG [.r [.b true, .b true] [0, 3, 4, 11], .t false] ((cc h1 (cc h1 (cc tt (cc (bt false h1 h2) (cc (er q) (cc (fq p.length 3 (ff p)) (cc (er ((i : Nat) : Int)) nn)))))))) (by kernel_rfl)
theorem zer_all  {p : List Fq} {i : Nat}  {q : Int}
    (h1 : Loops E31 L31a (sZer q ([] : List Fq) 0) (.exit 0) (sZer q p i))
    (h2 : ([] : List Fq).length = 0) :
    Goes E31 B31 [(0, (num .i64 q))] .ret [(2, (FL p))] :=
  pathG [.r [] [0, 2], .r [] [0, 2, 3], .r [] [0, 2, 3, 4], .l (sZer q ([] : List Fq) 0) (.exit 0) (sZer q p i), .r [] [0, 2, 3, 4]] ((cc (er q) (cc h2 (cc (er (0:Int)) (cc h1 (cc (fq p.length 3 (ff p)) nn)))))) (by kernel_rfl)

def noughts (n : Nat) : List Rat := List.replicate n 0
theorem tb_noughts (n : Nat) : tb n (fun _ => rq 0) = rqs (noughts n) := by
  simp only [tb, rqs, noughts, List.map_replicate]
  apply List.ext_getElem
  · simp
  · intro i h1 h2; simp
theorem zer_loop (q : Int) (N : Nat) (hN : (N : Int) = min (max q 0) 300) : ∀ (j i : Nat), i + j = N →
    Loops E31 L31a (sZer q (tb i fun _ => rq 0) i) (.exit 0) (sZer q (rqs (noughts N)) N) := by
  intro j
  induction j with
  | zero =>
    intro i hi
    refine .leave ?_ (fun h => by cases h)
    have : i = N := by omega
    subst this
    rw [tb_noughts]
    by_cases h : (i : Int) < q
    · exact zer_300 (decide_eq_true h) (decide_eq_false (by omega))
    · exact zer_out (decide_eq_false h)
  | succ j ih =>
    intro i hi
    have ht := ih (i + 1) (by omega)
    rw [tb_succ] at ht
    refine Loops.again ?_ ht
    exact zer_in (ref9_int 0 (by omega) (by omega)) (decide_eq_true (by omega)) (decide_eq_true (by omega)) (room_le (by rw [tb_len]; omega) (by omega)) (i64_ok (by omega) (by omega)) (ff_app _ _) rfl
theorem ref11_zero (q : Int) (N : Nat) (hN : (N : Int) = min (max q 0) 300) :
    Den PP 31 [num .i64 q] [num .i64 q] (FL (rqs (noughts N))) := by
  refine D31 (gout := [(2, FL (rqs (noughts N)))]) (e := .ret) ?_ (by first | exact .inr rfl | exact .inl rfl) (by kernel_rfl) (by kernel_rfl)

  exact zer_all (zer_loop q N hN N 0 (by omega)) rfl
noncomputable def B28 : Code := codeOf Tryz.f28
noncomputable def E28 : Env := EV PP 26 []
theorem D28 {args outs : List S} {gout : List (Nat × S)} {e : Fin} {res : S} (hg : Goes E28 B28 (entry 0 args) e gout) (he : e = .normal ∨ e = .ret) (hle : Nat.ble args.length 26 = true)
    (hfin : finE (tabOf PP) gout Tryz.f28.results.toList args [] = some (outs, res)) : Den PP 28 args outs res :=
  den_tab (fn := Tryz.f28) (c := B28) (by kernel_rfl) (by kernel_rfl) (by kernel_rfl) (by kernel_rfl) hle hfin hg he
noncomputable def L28a : Code := sub [true, true, false, true, false, false] B28
def sRad (l m p : List Fq) (i : Nat) : List (Nat × S) := [(0, (FL l)), (1, (FL m)), (5, (FA p)), (6, (num .i64 ((i : Nat) : Int)))]
theorem rad_in  {p l m : List Fq} {i : Nat} {k : Fq} 
    (h1 : Den PP 29 [(FS (l.getD i fz)), (FS (m.getD i fz))] [(FS (l.getD i fz)), (FS (m.getD i fz))] (FS k))
    (h2 : (decide (((i : Nat) : Int) < (l.length : Int))) = true)
    (h3 : idx l.length ((i : Nat) : Int))
    (h4 : idx m.length ((i : Nat) : Int))
    (h5 : room (p.length + 1) 56)
    (h6 : inR .i64 (((i : Nat) : Int) + (1:Int)))
    (h7 : (p.length + 1) = (p ++ [k]).length ∧ FEq (p.length + 1) 3 (appF p.length (ff p) (rowF 3 [(.d (.v (.bool k.neg))), (.d (.sf 1 k.n.length (wf k.n))), (.d (.sf 1 k.d.length (wf k.d)))])) (ff (p ++ [k])))
    (h8 : (((i : Nat) : Int) + (1:Int)) = (((i + 1) : Nat) : Int)) :
    Goes E28 L28a (sRad l m p i) .normal (sRad l m (p ++ [k]) (i + 1)) :=
  pathG [.r [] [0, 1, 5, 6, 10], .t true, .r [.c [(FS (l.getD i fz)), (FS (m.getD i fz))] [(FS (l.getD i fz)), (FS (m.getD i fz))] (FS k)] [0, 1, 5, 6, 10], .r [] [0, 1, 5, 6, 10]] ((cc h2 (cc h3 (cc h4 (cc (er ((l.getD i fz).neg)) (cc (fq ((l.getD i fz).n.length) 1 (wf ((l.getD i fz).n))) (cc (fq ((l.getD i fz).d.length) 1 (wf ((l.getD i fz).d))) (cc (er ((m.getD i fz).neg)) (cc (fq ((m.getD i fz).n.length) 1 (wf ((m.getD i fz).n))) (cc (fq ((m.getD i fz).d.length) 1 (wf ((m.getD i fz).d))) (cc h1 (cc h5 (cc h6 (cc (fq l.length 3 (ff l)) (cc (fq m.length 3 (ff m)) (cc h7 (cc h8 nn))))))))))))))))) (by kernel_rfl)
theorem rad_out  {p l m : List Fq} {i : Nat}  
    (h1 : (decide (((i : Nat) : Int) < (l.length : Int))) = false) :
    Goes E28 L28a (sRad l m p i) (.exit 0) (sRad l m p i) :=
  pathG [.r [] [0, 1, 5, 6, 10], .t false] ((cc h1 (cc (fq l.length 3 (ff l)) (cc (fq m.length 3 (ff m)) (cc (fq p.length 3 (ff p)) (cc (er ((i : Nat) : Int)) nn)))))) (by kernel_rfl)
theorem rad_all  {p l m : List Fq} {i : Nat}  
    (h1 : Loops E28 L28a (sRad l m ([] : List Fq) 0) (.exit 0) (sRad l m p i))
    (h2 : ([] : List Fq).length = 0) :
    Goes E28 B28 [(0, (FL l)), (1, (FL m))] .ret [(4, (FL p))] :=
  pathG [.r [] [0, 1, 4], .r [] [0, 1, 4, 5], .r [] [0, 1, 4, 5, 6], .l (sRad l m ([] : List Fq) 0) (.exit 0) (sRad l m p i), .r [] [0, 1, 4, 5, 6]] ((cc (fq l.length 3 (ff l)) (cc (fq m.length 3 (ff m)) (cc h2 (cc (er (0:Int)) (cc h1 (cc (fq p.length 3 (ff p)) nn))))))) (by kernel_rfl)

/-- the sum of two rows of one length -/
def addQ (a b : List Rat) : List Rat := List.zipWith (· + ·) a b
theorem tb_rqs (n : Nat) (g : Nat → Rat) : tb n (fun i => rq (g i)) = rqs (tb n g) := by simp [tb, rqs]
theorem rad_loop (a b : List Rat) (he : a.length = b.length) (hl : a.length ≤ 1073741824) (ha : OkL 33554432 (rqs a)) (hb : OkL 33554432 (rqs b)) : ∀ (j i : Nat), i + j = a.length →
    Loops E28 L28a (sRad (rqs a) (rqs b) (tb i fun i => rq (a.getD i 0 + b.getD i 0)) i) (.exit 0) (sRad (rqs a) (rqs b) (rqs (addQ a b)) a.length) := by
  intro j
  induction j with
  | zero =>
    intro i hi
    refine .leave ?_ (fun h => by cases h)
    have : i = a.length := by omega
    subst this
    rw [tb_rqs, tb_zip a b 0 0 he (· + ·)]
    exact rad_out (decide_eq_false (by rw [rqs_len]; omega))
  | succ j ih =>
    intro i hi
    have ht := ih (i + 1) (by omega)
    rw [tb_succ] at ht
    refine Loops.again ?_ ht
    have h1 := ha i (by rw [rqs_len]; omega)
    have h2 := hb i (by rw [rqs_len]; omega)
    have hc := ref9_add ((rqs a).getD i fz) ((rqs b).getD i fz) h1 h2 (by rw [getD_rqs _ _ (by omega)]; exact rq_d0 _) (by rw [getD_rqs _ _ (by omega)]; exact rq_d0 _)
    have e : fv ((rqs a).getD i fz) + fv ((rqs b).getD i fz) = a.getD i 0 + b.getD i 0 := by
      rw [getD_rqs _ _ (by omega), getD_rqs _ _ (by omega), fv_rq, fv_rq]
    rw [e] at hc
    exact rad_in hc (decide_eq_true (by rw [rqs_len]; omega)) ⟨by omega, by rw [rqs_len]; omega⟩ ⟨by omega, by rw [rqs_len]; omega⟩ (room_le (by rw [tb_len]; omega) (by omega)) (i64_ok (by omega) (by omega)) (ff_app _ _) rfl
theorem ref11_add (a b : List Rat) (he : a.length = b.length) (hl : a.length ≤ 1073741824) (ha : OkL 33554432 (rqs a)) (hb : OkL 33554432 (rqs b)) :
    Den PP 28 [FL (rqs a), FL (rqs b)] [FL (rqs a), FL (rqs b)] (FL (rqs (addQ a b))) := by
  refine D28 (gout := [(4, FL (rqs (addQ a b)))]) (e := .ret) ?_ (by first | exact .inr rfl | exact .inl rfl) (by kernel_rfl) (by kernel_rfl)

  exact rad_all (rad_loop a b he hl ha hb a.length 0 (by omega)) rfl
noncomputable def B30 : Code := codeOf Tryz.f30
noncomputable def E30 : Env := EV PP 26 []
theorem D30 {args outs : List S} {gout : List (Nat × S)} {e : Fin} {res : S} (hg : Goes E30 B30 (entry 0 args) e gout) (he : e = .normal ∨ e = .ret) (hle : Nat.ble args.length 26 = true)
    (hfin : finE (tabOf PP) gout Tryz.f30.results.toList args [] = some (outs, res)) : Den PP 30 args outs res :=
  den_tab (fn := Tryz.f30) (c := B30) (by kernel_rfl) (by kernel_rfl) (by kernel_rfl) (by kernel_rfl) hle hfin hg he
noncomputable def L30a : Code := sub [true, true, false, true, false, false] B30
def sDot (l m : List Fq) (f : Fq) (i : Nat) : List (Nat × S) := [(0, (FL l)), (1, (FL m)), (4, (BX 34 (FS ⟨false, ([] : List Nat), ([] : List Nat)⟩))), (5, (BX 34 (FS f))), (6, (num .i64 ((i : Nat) : Int)))]
theorem dot_in  {l m : List Fq} {i : Nat} {f k x : Fq} 
    (h1 : Den PP 58 [(FS (l.getD i fz)), (FS (m.getD i fz))] [(FS (l.getD i fz)), (FS (m.getD i fz))] (FS k))
    (h2 : Den PP 29 [(FS f), (FS k)] [(FS f), (FS k)] (FS x))
    (h3 : (decide (((i : Nat) : Int) < (l.length : Int))) = true)
    (h4 : idx l.length ((i : Nat) : Int))
    (h5 : idx m.length ((i : Nat) : Int))
    (h6 : inR .i64 (((i : Nat) : Int) + (1:Int)))
    (h7 : (((i : Nat) : Int) + (1:Int)) = (((i + 1) : Nat) : Int)) :
    Goes E30 L30a (sDot l m f i) .normal (sDot l m x (i + 1)) :=
  pathG [.r [] [0, 1, 4, 5, 6, 11], .t true, .r [.c [(FS (l.getD i fz)), (FS (m.getD i fz))] [(FS (l.getD i fz)), (FS (m.getD i fz))] (FS k), .c [(FS f), (FS k)] [(FS f), (FS k)] (FS x)] [0, 1, 4, 5, 6, 11], .r [] [0, 1, 4, 5, 6, 11]] ((cc h3 (cc h4 (cc h5 (cc (er ((l.getD i fz).neg)) (cc (fq ((l.getD i fz).n.length) 1 (wf ((l.getD i fz).n))) (cc (fq ((l.getD i fz).d.length) 1 (wf ((l.getD i fz).d))) (cc (er ((m.getD i fz).neg)) (cc (fq ((m.getD i fz).n.length) 1 (wf ((m.getD i fz).n))) (cc (fq ((m.getD i fz).d.length) 1 (wf ((m.getD i fz).d))) (cc h1 (cc (er f.neg) (cc (fq f.n.length 1 (wf f.n)) (cc (fq f.d.length 1 (wf f.d)) (cc (er k.neg) (cc (fq k.n.length 1 (wf k.n)) (cc (fq k.d.length 1 (wf k.d)) (cc h2 (cc h6 (cc (fq l.length 3 (ff l)) (cc (fq m.length 3 (ff m)) (cc (er false) (cc (fq (([] : List Nat).length) 1 (wf ([] : List Nat))) (cc (fq (([] : List Nat).length) 1 (wf ([] : List Nat))) (cc (er x.neg) (cc (fq x.n.length 1 (wf x.n)) (cc (fq x.d.length 1 (wf x.d)) (cc h7 nn)))))))))))))))))))))))))))) (by kernel_rfl)
theorem dot_out  {l m : List Fq} {i : Nat} {f : Fq} 
    (h1 : (decide (((i : Nat) : Int) < (l.length : Int))) = false) :
    Goes E30 L30a (sDot l m f i) (.exit 0) (sDot l m f i) :=
  pathG [.r [] [0, 1, 4, 5, 6, 11], .t false] ((cc h1 (cc (fq l.length 3 (ff l)) (cc (fq m.length 3 (ff m)) (cc (er false) (cc (fq (([] : List Nat).length) 1 (wf ([] : List Nat))) (cc (fq (([] : List Nat).length) 1 (wf ([] : List Nat))) (cc (er f.neg) (cc (fq f.n.length 1 (wf f.n)) (cc (fq f.d.length 1 (wf f.d)) (cc (er ((i : Nat) : Int)) nn))))))))))) (by kernel_rfl)
theorem dot_all  {l m : List Fq} {i : Nat} {f k : Fq} 
    (h1 : Den PP 27 [(num .i64 (0:Int))] [(num .i64 (0:Int))] (FS k))
    (h2 : Loops E30 L30a (sDot l m k 0) (.exit 0) (sDot l m f i))
    (h3 : ([] : List Nat).length = 0) :
    Goes E30 B30 [(0, (FL l)), (1, (FL m))] .ret [(4, (BX 34 (FS f)))] :=
  pathG [.r [] [0, 1, 4], .r [.c [(num .i64 (0:Int))] [(num .i64 (0:Int))] (FS k)] [0, 1, 4, 5], .r [] [0, 1, 4, 5, 6], .l (sDot l m k 0) (.exit 0) (sDot l m f i), .r [] [0, 1, 4, 5, 6]] ((cc (er (0:Int)) (cc h1 (cc (fq l.length 3 (ff l)) (cc (fq m.length 3 (ff m)) (cc (er false) (cc h3 (cc h3 (cc (er k.neg) (cc (fq k.n.length 1 (wf k.n)) (cc (fq k.d.length 1 (wf k.d)) (cc (er (0:Int)) (cc h2 (cc (er f.neg) (cc (fq f.n.length 1 (wf f.n)) (cc (fq f.d.length 1 (wf f.d)) nn)))))))))))))))) (by kernel_rfl)

/-- the sum of the first so many products -/
def dotN (a b : List Rat) : Nat → Rat
  | 0 => 0
  | i + 1 => dotN a b i + a.getD i 0 * b.getD i 0
def dotQ (a b : List Rat) : Rat := dotN a b a.length
/-- all that is made on the way to a sum of products is of at most so many words -/
def DotOk (K : Nat) (a b : List Rat) : Prop := (∀ i, i ≤ a.length → Ok K (rq (dotN a b i))) ∧ ∀ i, i < a.length → Ok K (rq (a.getD i 0)) ∧ Ok K (rq (b.getD i 0)) ∧ Ok K (rq (a.getD i 0 * b.getD i 0))
theorem dot_loop (a b : List Rat) (he : a.length = b.length) (hl : a.length ≤ 1073741824) (hk : DotOk 33554432 a b) : ∀ (j i : Nat), i + j = a.length →
    Loops E30 L30a (sDot (rqs a) (rqs b) (rq (dotN a b i)) i) (.exit 0) (sDot (rqs a) (rqs b) (rq (dotQ a b)) a.length) := by
  intro j
  induction j with
  | zero =>
    intro i hi
    refine .leave ?_ (fun h => by cases h)
    have : i = a.length := by omega
    subst this
    exact dot_out (decide_eq_false (by rw [rqs_len]; omega))
  | succ j ih =>
    intro i hi
    have ht := ih (i + 1) (by omega)
    refine Loops.again ?_ ht
    obtain ⟨h1, h2, h3⟩ := hk.2 i (by omega)
    have c1 := ref9_mul (rq (a.getD i 0)) (rq (b.getD i 0)) h1 h2
    rw [fv_rq, fv_rq] at c1
    have c2 := ref9_add (rq (dotN a b i)) (rq (a.getD i 0 * b.getD i 0)) (hk.1 i (by omega)) h3 (rq_d0 _) (rq_d0 _)
    rw [fv_rq, fv_rq] at c2
    rw [← getD_rqs a i (by omega), ← getD_rqs b i (by omega)] at c1
    exact dot_in c1 c2 (decide_eq_true (by rw [rqs_len]; omega)) ⟨by omega, by rw [rqs_len]; omega⟩ ⟨by omega, by rw [rqs_len]; omega⟩ (i64_ok (by omega) (by omega)) rfl
theorem ref11_dot (a b : List Rat) (he : a.length = b.length) (hl : a.length ≤ 1073741824) (hk : DotOk 33554432 a b) :
    Den PP 30 [FL (rqs a), FL (rqs b)] [FL (rqs a), FL (rqs b)] (FS (rq (dotQ a b))) := by
  refine D30 (gout := [(4, BX 34 (FS (rq (dotQ a b))))]) (e := .ret) ?_ (by first | exact .inr rfl | exact .inl rfl) (by kernel_rfl) (by kernel_rfl)

  exact dot_all (ref9_int 0 (by omega) (by omega)) (dot_loop a b he hl hk a.length 0 (by omega)) rfl
noncomputable def B54 : Code := codeOf Tryz.f54
noncomputable def E54 : Env := EV PP 27 []
theorem D54 {args outs : List S} {gout : List (Nat × S)} {e : Fin} {res : S} (hg : Goes E54 B54 (entry 0 args) e gout) (he : e = .normal ∨ e = .ret) (hle : Nat.ble args.length 27 = true)
    (hfin : finE (tabOf PP) gout Tryz.f54.results.toList args [] = some (outs, res)) : Den PP 54 args outs res :=
  den_tab (fn := Tryz.f54) (c := B54) (by kernel_rfl) (by kernel_rfl) (by kernel_rfl) (by kernel_rfl) hle hfin hg he
noncomputable def L54a : Code := sub [true, true, false, true, false, false] B54
def sRsm (l m : List Fq) (i : Nat) : List (Nat × S) := [(0, (FL l)), (1, (FL m)), (5, (num .i64 ((i : Nat) : Int)))]
theorem rsm_in  {l m : List Fq} {i : Nat}  
    (h1 : Den PP 73 [(FS (l.getD i fz)), (FS (m.getD i fz))] [(FS (l.getD i fz)), (FS (m.getD i fz))] (bl true))
    (h2 : (decide (((i : Nat) : Int) < (l.length : Int))) = true)
    (h3 : idx l.length ((i : Nat) : Int))
    (h4 : idx m.length ((i : Nat) : Int))
    (h5 : inR .i64 (((i : Nat) : Int) + (1:Int)))
    (h6 : (((i : Nat) : Int) + (1:Int)) = (((i + 1) : Nat) : Int)) :
    Goes E54 L54a (sRsm l m i) .normal (sRsm l m (i + 1)) :=
  pathG [.r [] [0, 1, 5, 14], .t true, .r [.c [(FS (l.getD i fz)), (FS (m.getD i fz))] [(FS (l.getD i fz)), (FS (m.getD i fz))] (bl true)] [0, 1, 5, 14, 26], .t false, .r [] [0, 1, 5, 14, 26]] ((cc h2 (cc h3 (cc h4 (cc (er ((l.getD i fz).neg)) (cc (fq ((l.getD i fz).n.length) 1 (wf ((l.getD i fz).n))) (cc (fq ((l.getD i fz).d.length) 1 (wf ((l.getD i fz).d))) (cc (er ((m.getD i fz).neg)) (cc (fq ((m.getD i fz).n.length) 1 (wf ((m.getD i fz).n))) (cc (fq ((m.getD i fz).d.length) 1 (wf ((m.getD i fz).d))) (cc h1 (cc (bn (er true)) (cc h5 (cc (fq l.length 3 (ff l)) (cc (fq m.length 3 (ff m)) (cc h6 nn)))))))))))))))) (by kernel_rfl)
theorem rsm_no  {l m : List Fq} {i : Nat}  
    (h1 : Den PP 73 [(FS (l.getD i fz)), (FS (m.getD i fz))] [(FS (l.getD i fz)), (FS (m.getD i fz))] (bl false))
    (h2 : (decide (((i : Nat) : Int) < (l.length : Int))) = true)
    (h3 : idx l.length ((i : Nat) : Int))
    (h4 : idx m.length ((i : Nat) : Int)) :
    Goes E54 L54a (sRsm l m i) .ret [(4, (bl false))] :=
  pathG [.r [] [0, 1, 5, 14], .t true, .r [.c [(FS (l.getD i fz)), (FS (m.getD i fz))] [(FS (l.getD i fz)), (FS (m.getD i fz))] (bl false)] [0, 1, 5, 14, 26], .t true, .r [] [0, 1, 4, 5, 14, 26]] ((cc h2 (cc h3 (cc h4 (cc (er ((l.getD i fz).neg)) (cc (fq ((l.getD i fz).n.length) 1 (wf ((l.getD i fz).n))) (cc (fq ((l.getD i fz).d.length) 1 (wf ((l.getD i fz).d))) (cc (er ((m.getD i fz).neg)) (cc (fq ((m.getD i fz).n.length) 1 (wf ((m.getD i fz).n))) (cc (fq ((m.getD i fz).d.length) 1 (wf ((m.getD i fz).d))) (cc h1 (cc (bn (er false)) (cc (er false) nn))))))))))))) (by kernel_rfl)
theorem rsm_out  {l m : List Fq} {i : Nat}  
    (h1 : (decide (((i : Nat) : Int) < (l.length : Int))) = false) :
    Goes E54 L54a (sRsm l m i) (.exit 0) (sRsm l m i) :=
  pathG [.r [] [0, 1, 5, 14], .t false] ((cc h1 (cc (fq l.length 3 (ff l)) (cc (fq m.length 3 (ff m)) (cc (er ((i : Nat) : Int)) nn))))) (by kernel_rfl)
theorem rsm_len  {l m : List Fq}   
    (h1 : ((l.length : Int) != (m.length : Int)) = true) :
    Goes E54 B54 [(0, (FL l)), (1, (FL m))] .ret [(4, (bl false))] :=
  pathG [.r [] [0, 1, 4], .r [] [0, 1, 4, 10], .t true, .r [] [0, 1, 4, 10]] ((cc h1 (cc (er false) nn))) (by kernel_rfl)
theorem rsm_f  {l m : List Fq}   
    (h1 : Loops E54 L54a (sRsm l m 0) .ret [(4, (bl false))])
    (h2 : ((l.length : Int) != (m.length : Int)) = false) :
    Goes E54 B54 [(0, (FL l)), (1, (FL m))] .ret [(4, (bl false))] :=
  pathG [.r [] [0, 1, 4], .r [] [0, 1, 4, 10], .t false, .r [] [0, 1, 4, 5, 10], .l (sRsm l m 0) .ret [(4, (bl false))]] ((cc h2 (cc (fq l.length 3 (ff l)) (cc (fq m.length 3 (ff m)) (cc (er (0:Int)) (cc h1 (cc (er false) nn))))))) (by kernel_rfl)
theorem rsm_t  {l m : List Fq} {i : Nat}  
    (h1 : Loops E54 L54a (sRsm l m 0) (.exit 0) (sRsm l m i))
    (h2 : ((l.length : Int) != (m.length : Int)) = false) :
    Goes E54 B54 [(0, (FL l)), (1, (FL m))] .ret [(4, (bl true))] :=
  pathG [.r [] [0, 1, 4], .r [] [0, 1, 4, 10], .t false, .r [] [0, 1, 4, 5, 10], .l (sRsm l m 0) (.exit 0) (sRsm l m i), .r [] [0, 1, 4, 5]] ((cc h2 (cc (fq l.length 3 (ff l)) (cc (fq m.length 3 (ff m)) (cc (er (0:Int)) (cc h1 (cc (er true) nn))))))) (by kernel_rfl)

theorem list_eq_of {l m : List Fq} (h : l.length = m.length) : (l = m) ↔ ∀ i, i < l.length → l.getD i fz = m.getD i fz := by
  constructor
  · rintro rfl i _; rfl
  · intro hh
    apply List.ext_getElem h
    intro i h1 h2
    have := hh i h1
    simpa [List.getD, h1, h2] using this
open Classical in
theorem rsm_loop (l m : List Fq) (he : l.length = m.length) (hl : l.length ≤ 1073741824) (hk : OkL 134217728 l) : ∀ (j i : Nat), i + j = l.length →
    (if ∃ k, i ≤ k ∧ k < l.length ∧ l.getD k fz ≠ m.getD k fz then Loops E54 L54a (sRsm l m i) .ret [(4, bl false)] else Loops E54 L54a (sRsm l m i) (.exit 0) (sRsm l m l.length)) := by
  intro j
  induction j with
  | zero =>
    intro i hi
    rw [if_neg (by rintro ⟨k, h1, h2, _⟩; omega)]
    refine .leave ?_ (fun h => by cases h)
    have : i = l.length := by omega
    subst this
    exact rsm_out (decide_eq_false (by omega))
  | succ j ih =>
    intro i hi
    have ht := ih (i + 1) (by omega)
    have hc := ref9_same (l.getD i fz) (m.getD i fz) (Nat.le_trans (hk i (by omega)).ln (by omega)) (Nat.le_trans (hk i (by omega)).ld (by omega))
    by_cases e : l.getD i fz = m.getD i fz
    · rw [decide_eq_true e] at hc
      have step := rsm_in hc (decide_eq_true (by omega)) ⟨by omega, by omega⟩ ⟨by omega, by omega⟩ (i64_ok (by omega) (by omega)) rfl
      by_cases h : ∃ k, i + 1 ≤ k ∧ k < l.length ∧ l.getD k fz ≠ m.getD k fz
      · rw [if_pos h] at ht
        rw [if_pos (by obtain ⟨k, h1, h2, h3⟩ := h; exact ⟨k, by omega, h2, h3⟩)]
        exact Loops.again step ht
      · rw [if_neg h] at ht
        rw [if_neg (by
          rintro ⟨k, h1, h2, h3⟩
          rcases Nat.eq_or_lt_of_le h1 with h4 | h4
          · subst h4; exact h3 e
          · exact h ⟨k, h4, h2, h3⟩)]
        exact Loops.again step ht
    · rw [decide_eq_false e] at hc
      rw [if_pos ⟨i, Nat.le_refl _, by omega, e⟩]
      exact .leave (rsm_no hc (decide_eq_true (by omega)) ⟨by omega, by omega⟩ ⟨by omega, by omega⟩) (fun h => by cases h)
theorem ref11_same (l m : List Fq) (hl : l.length ≤ 1073741824) (hk : OkL 134217728 l) :
    Den PP 54 [FL l, FL m] [FL l, FL m] (bl (decide (l = m))) := by
  refine D54 (gout := [(4, bl (decide (l = m)))]) (e := .ret) ?_ (by first | exact .inr rfl | exact .inl rfl) (by kernel_rfl) (by kernel_rfl)

  by_cases he : l.length = m.length
  · have h := rsm_loop l m he hl hk l.length 0 (by omega)
    have e1 : ((l.length : Int) != (m.length : Int)) = false := by simp [he]
    by_cases hx : l = m
    · rw [if_neg (by rintro ⟨k, _, h2, h3⟩; exact h3 ((list_eq_of he).1 hx k h2))] at h
      rw [decide_eq_true hx]
      exact rsm_t h e1
    · rw [if_pos (Classical.byContradiction fun hn => hx ((list_eq_of he).2 fun i hi => Classical.byContradiction fun h3 => hn ⟨i, by omega, hi, h3⟩))] at h
      rw [decide_eq_false hx]
      exact rsm_f h e1
  · rw [decide_eq_false (fun h => he (by rw [h]) : ¬ l = m)]
    exact rsm_len (by simpa using by omega)
noncomputable def B9 : Code := codeOf Tryz.f9
noncomputable def E9 : Env := EV PP 29 []
theorem D9 {args outs : List S} {gout : List (Nat × S)} {e : Fin} {res : S} (hg : Goes E9 B9 (entry 0 args) e gout) (he : e = .normal ∨ e = .ret) (hle : Nat.ble args.length 29 = true)
    (hfin : finE (tabOf PP) gout Tryz.f9.results.toList args [] = some (outs, res)) : Den PP 9 args outs res :=
  den_tab (fn := Tryz.f9) (c := B9) (by kernel_rfl) (by kernel_rfl) (by kernel_rfl) (by kernel_rfl) hle hfin hg he
noncomputable def L9a : Code := sub [true, false, true, false, false] B9
def sRlg (l : List Fq) (n w i : Nat) : List (Nat × S) := [(0, (FL l)), (1, (num .i64 ((n : Nat) : Int))), (2, (num .i64 ((w : Nat) : Int))), (7, (num .i64 ((i : Nat) : Int)))]
theorem rlg_in  {l : List Fq} {i n w : Nat}  
    (h1 : Den PP 42 [(FS (l.getD i fz)), (num .i64 ((w : Nat) : Int))] [(FS (l.getD i fz)), (num .i64 ((w : Nat) : Int))] (bl false))
    (h2 : (decide (((i : Nat) : Int) < (l.length : Int))) = true)
    (h3 : (decide (((i : Nat) : Int) < ((n : Nat) : Int))) = true)
    (h4 : idx l.length ((i : Nat) : Int))
    (h5 : inR .i64 (((i : Nat) : Int) + (1:Int)))
    (h6 : (((i : Nat) : Int) + (1:Int)) = (((i + 1) : Nat) : Int)) :
    Goes E9 L9a (sRlg l n w i) .normal (sRlg l n w (i + 1)) :=
  pathG [.r [.b true, .b true, .b true] [0, 1, 2, 7, 16], .t true, .r [.c [(FS (l.getD i fz)), (num .i64 ((w : Nat) : Int))] [(FS (l.getD i fz)), (num .i64 ((w : Nat) : Int))] (bl false)] [0, 1, 2, 7, 16, 24], .t false, .r [] [0, 1, 2, 7, 16, 24]] ((cc h2 (cc h2 (cc h2 (cc tt (cc (bt false h2 h3) (cc h4 (cc (er ((l.getD i fz).neg)) (cc (fq ((l.getD i fz).n.length) 1 (wf ((l.getD i fz).n))) (cc (fq ((l.getD i fz).d.length) 1 (wf ((l.getD i fz).d))) (cc (er ((w : Nat) : Int)) (cc h1 (cc (er false) (cc h5 (cc (fq l.length 3 (ff l)) (cc (er ((n : Nat) : Int)) (cc (er ((w : Nat) : Int)) (cc h6 nn)))))))))))))))))) (by kernel_rfl)
theorem rlg_yes  {l : List Fq} {i n w : Nat}  
    (h1 : Den PP 42 [(FS (l.getD i fz)), (num .i64 ((w : Nat) : Int))] [(FS (l.getD i fz)), (num .i64 ((w : Nat) : Int))] (bl true))
    (h2 : (decide (((i : Nat) : Int) < (l.length : Int))) = true)
    (h3 : (decide (((i : Nat) : Int) < ((n : Nat) : Int))) = true)
    (h4 : idx l.length ((i : Nat) : Int)) :
    Goes E9 L9a (sRlg l n w i) .ret [(6, (bl true))] :=
  pathG [.r [.b true, .b true, .b true] [0, 1, 2, 7, 16], .t true, .r [.c [(FS (l.getD i fz)), (num .i64 ((w : Nat) : Int))] [(FS (l.getD i fz)), (num .i64 ((w : Nat) : Int))] (bl true)] [0, 1, 2, 7, 16, 24], .t true, .r [] [0, 1, 2, 6, 7, 16, 24]] ((cc h2 (cc h2 (cc h2 (cc tt (cc (bt false h2 h3) (cc h4 (cc (er ((l.getD i fz).neg)) (cc (fq ((l.getD i fz).n.length) 1 (wf ((l.getD i fz).n))) (cc (fq ((l.getD i fz).d.length) 1 (wf ((l.getD i fz).d))) (cc (er ((w : Nat) : Int)) (cc h1 (cc (er true) (cc (er true) nn)))))))))))))) (by kernel_rfl)
theorem rlg_o1  {l : List Fq} {i n w : Nat}  
    (h1 : (decide (((i : Nat) : Int) < (l.length : Int))) = false) :
    Goes E9 L9a (sRlg l n w i) (.exit 0) (sRlg l n w i) :=
  pathG [.r [.b false, .b false, .b false] [0, 1, 2, 7, 16], .t false] ((cc h1 (cc h1 (cc h1 (cc h1 (cc (er false) (cc (fq l.length 3 (ff l)) (cc (er ((n : Nat) : Int)) (cc (er ((w : Nat) : Int)) (cc (er ((i : Nat) : Int)) nn)))))))))) (by kernel_rfl)
theorem rlg_o2  {l : List Fq} {i n w : Nat}  
    (h1 : (decide (((i : Nat) : Int) < (l.length : Int))) = true)
    (h2 : (decide (((i : Nat) : Int) < ((n : Nat) : Int))) = false) :
    Goes E9 L9a (sRlg l n w i) (.exit 0) (sRlg l n w i) :=
  pathG [.r [.b true, .b true, .b true] [0, 1, 2, 7, 16], .t false] ((cc h1 (cc h1 (cc h1 (cc tt (cc (bt false h1 h2) (cc (fq l.length 3 (ff l)) (cc (er ((n : Nat) : Int)) (cc (er ((w : Nat) : Int)) (cc (er ((i : Nat) : Int)) nn)))))))))) (by kernel_rfl)
theorem rlg_t  {l : List Fq} {n w : Nat}  
    (h1 : Loops E9 L9a (sRlg l n w 0) .ret [(6, (bl true))]) :
    Goes E9 B9 [(0, (FL l)), (1, (num .i64 ((n : Nat) : Int))), (2, (num .i64 ((w : Nat) : Int)))] .ret [(6, (bl true))] :=
  pathG [.r [] [0, 1, 2, 6], .r [] [0, 1, 2, 6, 7], .l (sRlg l n w 0) .ret [(6, (bl true))]] ((cc (fq l.length 3 (ff l)) (cc (er ((n : Nat) : Int)) (cc (er ((w : Nat) : Int)) (cc (er (0:Int)) (cc h1 (cc (er true) nn))))))) (by kernel_rfl)
theorem rlg_f  {l : List Fq} {i n w : Nat}  
    (h1 : Loops E9 L9a (sRlg l n w 0) (.exit 0) (sRlg l n w i)) :
    Goes E9 B9 [(0, (FL l)), (1, (num .i64 ((n : Nat) : Int))), (2, (num .i64 ((w : Nat) : Int)))] .ret [(6, (bl (decide ((l.length : Int) > ((n : Nat) : Int)))))] :=
  pathG [.r [] [0, 1, 2, 6], .r [] [0, 1, 2, 6, 7], .l (sRlg l n w 0) (.exit 0) (sRlg l n w i), .r [] [0, 1, 2, 6, 7]] ((cc (fq l.length 3 (ff l)) (cc (er ((n : Nat) : Int)) (cc (er ((w : Nat) : Int)) (cc (er (0:Int)) (cc h1 (cc (er (decide ((l.length : Int) > ((n : Nat) : Int)))) nn))))))) (by kernel_rfl)

/-- has a row more than n fractions, or one with more than w words? -/
def Lng (l : List Fq) (n w : Nat) : Prop := n < l.length ∨ ∃ k, k < l.length ∧ k < n ∧ (w < (l.getD k fz).n.length ∨ w < (l.getD k fz).d.length)
open Classical in
theorem rlg_loop (l : List Fq) (n w : Nat) (hl : n ≤ 4611686018427387903) : ∀ (j i : Nat), i + j = min l.length n →
    (if ∃ k, i ≤ k ∧ k < min l.length n ∧ (w < (l.getD k fz).n.length ∨ w < (l.getD k fz).d.length) then Loops E9 L9a (sRlg l n w i) .ret [(6, bl true)] else Loops E9 L9a (sRlg l n w i) (.exit 0) (sRlg l n w (min l.length n))) := by
  intro j
  induction j with
  | zero =>
    intro i hi
    rw [if_neg (by rintro ⟨k, h1, h2, _⟩; omega)]
    refine .leave ?_ (fun h => by cases h)
    have : i = min l.length n := by omega
    rw [← this]
    by_cases h : i < l.length
    · exact rlg_o2 (decide_eq_true (by omega)) (decide_eq_false (by omega))
    · exact rlg_o1 (decide_eq_false (by omega))
  | succ j ih =>
    intro i hi
    have ht := ih (i + 1) (by omega)
    have hc := ref9_long (l.getD i fz) w
    by_cases e : w < (l.getD i fz).n.length ∨ w < (l.getD i fz).d.length
    · rw [decide_eq_true e] at hc
      rw [if_pos ⟨i, Nat.le_refl _, by omega, e⟩]
      exact .leave (rlg_yes hc (decide_eq_true (by omega)) (decide_eq_true (by omega)) ⟨by omega, by omega⟩) (fun h => by cases h)
    · rw [decide_eq_false e] at hc
      have step := rlg_in (n := n) hc (decide_eq_true (by omega)) (decide_eq_true (by omega)) ⟨by omega, by omega⟩ (i64_ok (by omega) (by omega)) rfl
      by_cases h : ∃ k, i + 1 ≤ k ∧ k < min l.length n ∧ (w < (l.getD k fz).n.length ∨ w < (l.getD k fz).d.length)
      · rw [if_pos h] at ht
        rw [if_pos (by obtain ⟨k, h1, h2, h3⟩ := h; exact ⟨k, by omega, h2, h3⟩)]
        exact Loops.again step ht
      · rw [if_neg h] at ht
        rw [if_neg (by
          rintro ⟨k, h1, h2, h3⟩
          rcases Nat.eq_or_lt_of_le h1 with h4 | h4
          · subst h4; exact e h3
          · exact h ⟨k, h4, h2, h3⟩)]
        exact Loops.again step ht
theorem ref11_long_t (l : List Fq) (n w : Nat) (hl : n ≤ 4611686018427387903) (h : Lng l n w) :
    Den PP 9 [FL l, num .i64 (n : Int), num .i64 (w : Int)] [FL l, num .i64 (n : Int), num .i64 (w : Int)] (bl true) := by
  refine D9 (gout := [(6, bl true)]) (e := .ret) ?_ (by first | exact .inr rfl | exact .inl rfl) (by kernel_rfl) (by kernel_rfl)

  have hh := rlg_loop l n w hl (min l.length n) 0 (by omega)
  by_cases h2 : ∃ k, 0 ≤ k ∧ k < min l.length n ∧ (w < (l.getD k fz).n.length ∨ w < (l.getD k fz).d.length)
  · rw [if_pos h2] at hh
    exact rlg_t hh
  · rw [if_neg h2] at hh
    rcases h with h | ⟨k, h3, h4, h5⟩
    · have := rlg_f hh
      rw [decide_eq_true (by omega)] at this
      exact this
    · exact absurd ⟨k, by omega, by omega, h5⟩ h2
theorem ref11_long_f (l : List Fq) (n w : Nat) (hl : n ≤ 4611686018427387903) (h : ¬ Lng l n w) :
    Den PP 9 [FL l, num .i64 (n : Int), num .i64 (w : Int)] [FL l, num .i64 (n : Int), num .i64 (w : Int)] (bl false) := by
  refine D9 (gout := [(6, bl false)]) (e := .ret) ?_ (by first | exact .inr rfl | exact .inl rfl) (by kernel_rfl) (by kernel_rfl)

  have hh := rlg_loop l n w hl (min l.length n) 0 (by omega)
  rw [if_neg (by rintro ⟨k, h1, h2, h3⟩; exact h (.inr ⟨k, by omega, by omega, h3⟩))] at hh
  have := rlg_f hh
  rw [decide_eq_false (fun h9 => h (.inl (by omega)))] at this
  exact this
end Go.X
namespace Go.X
open Go
def fff (ls : List (List Fq)) : Nat → Nat → D := fun j _ => .sf 3 (ls.getD j []).length (ff (ls.getD j []))
def FLL (ls : List (List Fq)) : S := .one false [.d (.sf 1 ls.length (fff ls))]
/-- a pair of rows -/
def GS (a b : List Fq) : S := .one true [.d (.sf 3 a.length (ff a)), .d (.sf 3 b.length (ff b))]
def gsc (a b : List Fq) : Bool × List C := (true, [.d (.sf 3 a.length (ff a)), .d (.sf 3 b.length (ff b))])
def flc (l : List Fq) : Bool × List C := (false, [.d (.sf 3 l.length (ff l))])
theorem fff_two (a b : List Fq) : 2 = [a, b].length ∧ FEq 2 1 (rowF 1 [(.d (.sf 3 a.length (ff a))), (.d (.sf 3 b.length (ff b)))]) (fff [a, b]) := by
  refine ⟨rfl, fun j i hj hi => ?_⟩
  have : i = 0 := by omega
  subst this
  match j, hj with
  | 0, _ => exact D.eqv.refl _
  | 1, _ => exact D.eqv.refl _
end Go.X
namespace Go.X
open Go Go.Proofs
noncomputable def B13 : Code := codeOf Tryz.f13
noncomputable def E13 : Env := EV PP 11 []
theorem D13 {args outs : List S} {gout : List (Nat × S)} {e : Fin} {res : S} (hg : Goes E13 B13 (entry 0 args) e gout) (he : e = .normal ∨ e = .ret) (hle : Nat.ble args.length 11 = true)
    (hfin : finE (tabOf PP) gout Tryz.f13.results.toList args [] = some (outs, res)) : Den PP 13 args outs res :=
  den_tab (fn := Tryz.f13) (c := B13) (by kernel_rfl) (by kernel_rfl) (by kernel_rfl) (by kernel_rfl) hle hfin hg he
theorem to9    {f : Fq}  :
    Goes E13 B13 [(0, (FS f))] .ret [(2, (BX 60 (FS f)))] :=
  pathG [.r [] [0, 1, 2], .r [] [0, 1, 2]] ((cc (er f.neg) (cc (fq f.n.length 1 (wf f.n)) (cc (fq f.d.length 1 (wf f.d)) nn)))) (by kernel_rfl)
theorem law9_to (f : Fq) :
    Den PP 13 [FS f] [FS f] (FS f) := by
  refine D13 (gout := [(2, BX 60 (FS f))]) (e := .ret) ?_ (by first | exact .inr rfl | exact .inl rfl) (by kernel_rfl) (by kernel_rfl)

  exact to9
noncomputable def B74 : Code := codeOf Tryz.f74
noncomputable def E74 : Env := EV PP 12 []
theorem D74 {args outs : List S} {gout : List (Nat × S)} {e : Fin} {res : S} (hg : Goes E74 B74 (entry 0 args) e gout) (he : e = .normal ∨ e = .ret) (hle : Nat.ble args.length 12 = true)
    (hfin : finE (tabOf PP) gout Tryz.f74.results.toList args [] = some (outs, res)) : Den PP 74 args outs res :=
  den_tab (fn := Tryz.f74) (c := B74) (by kernel_rfl) (by kernel_rfl) (by kernel_rfl) (by kernel_rfl) hle hfin hg he
theorem of9    {f : Fq}  :
    Goes E74 B74 [(0, (FS f))] .ret [(2, (BX 34 (FS f)))] :=
  pathG [.r [] [0, 1, 2], .r [] [0, 1, 2]] ((cc (er f.neg) (cc (fq f.n.length 1 (wf f.n)) (cc (fq f.d.length 1 (wf f.d)) nn)))) (by kernel_rfl)
theorem law9_of (f : Fq) :
    Den PP 74 [FS f] [FS f] (FS f) := by
  refine D74 (gout := [(2, BX 34 (FS f))]) (e := .ret) ?_ (by first | exact .inr rfl | exact .inl rfl) (by kernel_rfl) (by kernel_rfl)

  exact of9
noncomputable def B32 : Code := codeOf Tryz.f32
noncomputable def E32 : Env := EV PP 9 []
theorem D32 {args outs : List S} {gout : List (Nat × S)} {e : Fin} {res : S} (hg : Goes E32 B32 (entry 0 args) e gout) (he : e = .normal ∨ e = .ret) (hle : Nat.ble args.length 9 = true)
    (hfin : finE (tabOf PP) gout Tryz.f32.results.toList args [] = some (outs, res)) : Den PP 32 args outs res :=
  den_tab (fn := Tryz.f32) (c := B32) (by kernel_rfl) (by kernel_rfl) (by kernel_rfl) (by kernel_rfl) hle hfin hg he
theorem is9 {t : Bool}   {f k : Fq} 
    (h1 : Den PP 74 [(FS f)] [(FS f)] (FS f))
    (h2 : Den PP 73 [(FS f), (FS k)] [(FS f), (FS k)] (bl t)) :
    Goes E32 B32 [(0, (FS f)), (1, (FS k))] .ret [(4, (bl t))] :=
  pathG [.r [] [0, 1, 2, 3, 4], .r [.c [(FS f)] [(FS f)] (FS f), .c [(FS f), (FS k)] [(FS f), (FS k)] (bl t)] [0, 1, 2, 3, 4]] ((cc (er f.neg) (cc (fq f.n.length 1 (wf f.n)) (cc (fq f.d.length 1 (wf f.d)) (cc h1 (cc (er f.neg) (cc (fq f.n.length 1 (wf f.n)) (cc (fq f.d.length 1 (wf f.d)) (cc (er k.neg) (cc (fq k.n.length 1 (wf k.n)) (cc (fq k.d.length 1 (wf k.d)) (cc h2 (cc (er t) nn))))))))))))) (by kernel_rfl)
theorem law9_is (f k : Fq) (hn : f.n.length ≤ 140737488355328) (hd : f.d.length ≤ 140737488355328) :
    Den PP 32 [FS f, FS k] [FS f, FS k] (bl (decide (f = k))) := by
  refine D32 (gout := [(4, bl (decide (f = k)))]) (e := .ret) ?_ (by first | exact .inr rfl | exact .inl rfl) (by kernel_rfl) (by kernel_rfl)

  exact is9 (law9_of f) (ref9_same f k hn hd)
noncomputable def B14 : Code := codeOf Tryz.f14
noncomputable def E14 : Env := EV PP 20 []
theorem D14 {args outs : List S} {gout : List (Nat × S)} {e : Fin} {res : S} (hg : Goes E14 B14 (entry 0 args) e gout) (he : e = .normal ∨ e = .ret) (hle : Nat.ble args.length 20 = true)
    (hfin : finE (tabOf PP) gout Tryz.f14.results.toList args [] = some (outs, res)) : Den PP 14 args outs res :=
  den_tab (fn := Tryz.f14) (c := B14) (by kernel_rfl) (by kernel_rfl) (by kernel_rfl) (by kernel_rfl) hle hfin hg he
noncomputable def L14a : Code := sub [true, true, false, true, false, false] B14
def sto11 (l p : List Fq) (i : Nat) : List (Nat × S) := [(0, (FL l)), (3, (FA p)), (4, (num .i64 ((i : Nat) : Int)))]
theorem to11_in  {p l : List Fq} {i : Nat} {k : Fq} 
    (h1 : Den PP 13 [(FS (l.getD i fz))] [(FS (l.getD i fz))] (FS k))
    (h2 : (decide (((i : Nat) : Int) < (l.length : Int))) = true)
    (h3 : idx l.length ((i : Nat) : Int))
    (h4 : room (p.length + 1) 56)
    (h5 : inR .i64 (((i : Nat) : Int) + (1:Int)))
    (h6 : (p.length + 1) = (p ++ [k]).length ∧ FEq (p.length + 1) 3 (appF p.length (ff p) (rowF 3 [(.d (.v (.bool k.neg))), (.d (.sf 1 k.n.length (wf k.n))), (.d (.sf 1 k.d.length (wf k.d)))])) (ff (p ++ [k])))
    (h7 : (((i : Nat) : Int) + (1:Int)) = (((i + 1) : Nat) : Int)) :
    Goes E14 L14a (sto11 l p i) .normal (sto11 l (p ++ [k]) (i + 1)) :=
  pathG [.r [] [0, 3, 4, 8], .t true, .r [.c [(FS (l.getD i fz))] [(FS (l.getD i fz))] (FS k)] [0, 3, 4, 8], .r [] [0, 3, 4, 8]] ((cc h2 (cc h3 (cc (er ((l.getD i fz).neg)) (cc (fq ((l.getD i fz).n.length) 1 (wf ((l.getD i fz).n))) (cc (fq ((l.getD i fz).d.length) 1 (wf ((l.getD i fz).d))) (cc h1 (cc h4 (cc h5 (cc (fq l.length 3 (ff l)) (cc h6 (cc h7 nn)))))))))))) (by kernel_rfl)
theorem to11_out  {p l : List Fq} {i : Nat}  
    (h1 : (decide (((i : Nat) : Int) < (l.length : Int))) = false) :
    Goes E14 L14a (sto11 l p i) (.exit 0) (sto11 l p i) :=
  pathG [.r [] [0, 3, 4, 8], .t false] ((cc h1 (cc (fq l.length 3 (ff l)) (cc (fq p.length 3 (ff p)) (cc (er ((i : Nat) : Int)) nn))))) (by kernel_rfl)
theorem to11_all  {p l : List Fq} {i : Nat}  
    (h1 : Loops E14 L14a (sto11 l ([] : List Fq) 0) (.exit 0) (sto11 l p i))
    (h2 : ([] : List Fq).length = 0) :
    Goes E14 B14 [(0, (FL l))] .ret [(2, (FL p))] :=
  pathG [.r [] [0, 2], .r [] [0, 2, 3], .r [] [0, 2, 3, 4], .l (sto11 l ([] : List Fq) 0) (.exit 0) (sto11 l p i), .r [] [0, 2, 3, 4]] ((cc (fq l.length 3 (ff l)) (cc h2 (cc (er (0:Int)) (cc h1 (cc (fq p.length 3 (ff p)) nn)))))) (by kernel_rfl)

theorem to11_loop (l : List Fq) (hl : l.length ≤ 1073741824) : ∀ (j i : Nat), i + j = l.length →
    Loops E14 L14a (sto11 l (tb i fun i => l.getD i fz) i) (.exit 0) (sto11 l l l.length) := by
  intro j
  induction j with
  | zero =>
    intro i hi
    refine .leave ?_ (fun h => by cases h)
    have : i = l.length := by omega
    subst this
    rw [tb_map l fz (fun f => f), List.map_id']
    exact to11_out (decide_eq_false (by omega))
  | succ j ih =>
    intro i hi
    have ht := ih (i + 1) (by omega)
    rw [tb_succ] at ht
    refine Loops.again ?_ ht
    exact to11_in (law9_to _) (decide_eq_true (by omega)) ⟨by omega, by omega⟩ (room_le (by rw [tb_len]; omega) (by omega)) (i64_ok (by omega) (by omega)) (ff_app _ _) rfl
theorem law_to11 (l : List Fq) (hl : l.length ≤ 1073741824) :
    Den PP 14 [FL l] [FL l] (FL l) := by
  refine D14 (gout := [(2, FL l)]) (e := .ret) ?_ (by first | exact .inr rfl | exact .inl rfl) (by kernel_rfl) (by kernel_rfl)

  exact to11_all (to11_loop l hl l.length 0 (by omega)) rfl
noncomputable def B55 : Code := codeOf Tryz.f55
noncomputable def E55 : Env := EV PP 20 []
theorem D55 {args outs : List S} {gout : List (Nat × S)} {e : Fin} {res : S} (hg : Goes E55 B55 (entry 0 args) e gout) (he : e = .normal ∨ e = .ret) (hle : Nat.ble args.length 20 = true)
    (hfin : finE (tabOf PP) gout Tryz.f55.results.toList args [] = some (outs, res)) : Den PP 55 args outs res :=
  den_tab (fn := Tryz.f55) (c := B55) (by kernel_rfl) (by kernel_rfl) (by kernel_rfl) (by kernel_rfl) hle hfin hg he
noncomputable def L55a : Code := sub [true, true, false, true, false, false] B55
def sof11 (l p : List Fq) (i : Nat) : List (Nat × S) := [(0, (FL l)), (3, (FA p)), (4, (num .i64 ((i : Nat) : Int)))]
theorem of11_in  {p l : List Fq} {i : Nat} {k : Fq} 
    (h1 : Den PP 74 [(FS (l.getD i fz))] [(FS (l.getD i fz))] (FS k))
    (h2 : (decide (((i : Nat) : Int) < (l.length : Int))) = true)
    (h3 : idx l.length ((i : Nat) : Int))
    (h4 : room (p.length + 1) 56)
    (h5 : inR .i64 (((i : Nat) : Int) + (1:Int)))
    (h6 : (p.length + 1) = (p ++ [k]).length ∧ FEq (p.length + 1) 3 (appF p.length (ff p) (rowF 3 [(.d (.v (.bool k.neg))), (.d (.sf 1 k.n.length (wf k.n))), (.d (.sf 1 k.d.length (wf k.d)))])) (ff (p ++ [k])))
    (h7 : (((i : Nat) : Int) + (1:Int)) = (((i + 1) : Nat) : Int)) :
    Goes E55 L55a (sof11 l p i) .normal (sof11 l (p ++ [k]) (i + 1)) :=
  pathG [.r [] [0, 3, 4, 8], .t true, .r [.c [(FS (l.getD i fz))] [(FS (l.getD i fz))] (FS k)] [0, 3, 4, 8], .r [] [0, 3, 4, 8]] ((cc h2 (cc h3 (cc (er ((l.getD i fz).neg)) (cc (fq ((l.getD i fz).n.length) 1 (wf ((l.getD i fz).n))) (cc (fq ((l.getD i fz).d.length) 1 (wf ((l.getD i fz).d))) (cc h1 (cc h4 (cc h5 (cc (fq l.length 3 (ff l)) (cc h6 (cc h7 nn)))))))))))) (by kernel_rfl)
theorem of11_out  {p l : List Fq} {i : Nat}  
    (h1 : (decide (((i : Nat) : Int) < (l.length : Int))) = false) :
    Goes E55 L55a (sof11 l p i) (.exit 0) (sof11 l p i) :=
  pathG [.r [] [0, 3, 4, 8], .t false] ((cc h1 (cc (fq l.length 3 (ff l)) (cc (fq p.length 3 (ff p)) (cc (er ((i : Nat) : Int)) nn))))) (by kernel_rfl)
theorem of11_all  {p l : List Fq} {i : Nat}  
    (h1 : Loops E55 L55a (sof11 l ([] : List Fq) 0) (.exit 0) (sof11 l p i))
    (h2 : ([] : List Fq).length = 0) :
    Goes E55 B55 [(0, (FL l))] .ret [(2, (FL p))] :=
  pathG [.r [] [0, 2], .r [] [0, 2, 3], .r [] [0, 2, 3, 4], .l (sof11 l ([] : List Fq) 0) (.exit 0) (sof11 l p i), .r [] [0, 2, 3, 4]] ((cc (fq l.length 3 (ff l)) (cc h2 (cc (er (0:Int)) (cc h1 (cc (fq p.length 3 (ff p)) nn)))))) (by kernel_rfl)

theorem of11_loop (l : List Fq) (hl : l.length ≤ 1073741824) : ∀ (j i : Nat), i + j = l.length →
    Loops E55 L55a (sof11 l (tb i fun i => l.getD i fz) i) (.exit 0) (sof11 l l l.length) := by
  intro j
  induction j with
  | zero =>
    intro i hi
    refine .leave ?_ (fun h => by cases h)
    have : i = l.length := by omega
    subst this
    rw [tb_map l fz (fun f => f), List.map_id']
    exact of11_out (decide_eq_false (by omega))
  | succ j ih =>
    intro i hi
    have ht := ih (i + 1) (by omega)
    rw [tb_succ] at ht
    refine Loops.again ?_ ht
    exact of11_in (law9_of _) (decide_eq_true (by omega)) ⟨by omega, by omega⟩ (room_le (by rw [tb_len]; omega) (by omega)) (i64_ok (by omega) (by omega)) (ff_app _ _) rfl
theorem law_of11 (l : List Fq) (hl : l.length ≤ 1073741824) :
    Den PP 55 [FL l] [FL l] (FL l) := by
  refine D55 (gout := [(2, FL l)]) (e := .ret) ?_ (by first | exact .inr rfl | exact .inl rfl) (by kernel_rfl) (by kernel_rfl)

  exact of11_all (of11_loop l hl l.length 0 (by omega)) rfl
end Go.X
