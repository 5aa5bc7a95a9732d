/- Part 28 of the proof of BackSums: Paths and contracts. What an argument reads as, told as plain data: rows of words, fractions, rows of fractions. Arguments told as plain data: fractions, rows, pairs of rows, pairs of numbers; what was there reads behind the call as before. BackSums: the statement, but for what works() answers. Closed facts of the row, each by itself (all in one theorem wants too much memory). No conditions but those that each theorem names. -/
import Derived.Test.YthmecihkgdaffaaGreatDoorP27
import Derived.Test.YthmecihkgdaffaaGreatDoorP14
import Derived.ChangeArms
import Derived.Carry
import Derived.ChangeSame
import Derived.OpenShut
import Derived.Test.YthmecihkgdaffaaGreatDoorCards
import Derived.Test.YthmecihkgdaffaaGreatDoorTie
import Derived.WalkKit
import Derived.ProofKit
import Derived.Deep.DeepHandedRow
import Derived.Lib.LaidTab
import Derived.JoinedCond
namespace Go.X
open Go Go.Proofs
noncomputable def B5 : Code := codeOf Tryz.f5
noncomputable def E5 : Env := EV PP 153 []
theorem D5 {args outs : List S} {gout : List (Nat × S)} {e : Fin} {res : S} (hg : Goes E5 B5 (entry 0 args) e gout) (he : e = .normal ∨ e = .ret) (hle : Nat.ble args.length 153 = true)
    (hfin : finE (tabOf PP) gout Tryz.f5.results.toList args [] = some (outs, res)) : Den PP 5 args outs res :=
  den_tab (fn := Tryz.f5) (c := B5) (by kernel_rfl) (by kernel_rfl) (by kernel_rfl) (by kernel_rfl) hle hfin hg he
def AR (q j : Int) : S := .one true [.d (.v (.int .i64 q)), .d (.v (.int .i64 j))]
theorem bs_1  {a b d e : List Fq}   {q j : Int}
    (h1 : Den PP 9 [(FL a), (num .i64 (8:Int)), (num .i64 (2:Int))] [(FL a), (num .i64 (8:Int)), (num .i64 (2:Int))] (bl true))
    (h2 : Den PP 10 [] [] (bl true)) :
    Goes E5 B5 [(0, (GS a b)), (1, (GS d e)), (2, (AR q j))] .ret [(6, (bl true))] :=
  pathG [.r [] [0, 1, 2, 3, 4, 5, 6], .r [.c [(FL a), (num .i64 (8:Int)), (num .i64 (2:Int))] [(FL a), (num .i64 (8:Int)), (num .i64 (2:Int))] (bl true), .b true, .b true, .b true, .b true, .b true, .b true, .b true, .b true, .b true] [0, 1, 2, 3, 4, 5, 6, 38], .t true, .r [.c [] [] (bl true)] [0, 1, 2, 3, 4, 5, 6, 38]] ((cc (fq a.length 3 (ff a)) (cc (er (8:Int)) (cc (er (2:Int)) (cc h1 (cc (er true) (cc (er true) (cc (er true) (cc (er true) (cc (er true) (cc (er true) (cc (er true) (cc (er true) (cc (er true) (cc (er true) (cc (er true) (cc (er true) (cc (er true) (cc h2 (cc (er true) nn)))))))))))))))))))) (by kernel_rfl)
theorem bs_2  {a b d e : List Fq}   {q j : Int}
    (h1 : Den PP 9 [(FL a), (num .i64 (8:Int)), (num .i64 (2:Int))] [(FL a), (num .i64 (8:Int)), (num .i64 (2:Int))] (bl false))
    (h2 : Den PP 9 [(FL b), (num .i64 (8:Int)), (num .i64 (2:Int))] [(FL b), (num .i64 (8:Int)), (num .i64 (2:Int))] (bl true))
    (h3 : Den PP 10 [] [] (bl true)) :
    Goes E5 B5 [(0, (GS a b)), (1, (GS d e)), (2, (AR q j))] .ret [(6, (bl true))] :=
  pathG [.r [] [0, 1, 2, 3, 4, 5, 6], .r [.c [(FL a), (num .i64 (8:Int)), (num .i64 (2:Int))] [(FL a), (num .i64 (8:Int)), (num .i64 (2:Int))] (bl false), .b false, .b false, .b false, .c [(FL b), (num .i64 (8:Int)), (num .i64 (2:Int))] [(FL b), (num .i64 (8:Int)), (num .i64 (2:Int))] (bl true), .b true, .b true, .b true, .b true, .b true, .b true] [0, 1, 2, 3, 4, 5, 6, 38], .t true, .r [.c [] [] (bl true)] [0, 1, 2, 3, 4, 5, 6, 38]] ((cc (fq a.length 3 (ff a)) (cc (er (8:Int)) (cc (er (2:Int)) (cc h1 (cc (er false) (cc (er false) (cc (er false) (cc (fq b.length 3 (ff b)) (cc (er (8:Int)) (cc (er (2:Int)) (cc h2 (cc tt (cc (bf true (er false) (er true)) (cc (bf true (er false) (er true)) (cc (bf true (er false) (er true)) (cc (bf true (er false) (er true)) (cc (er true) (cc (er true) (cc (er true) (cc (er true) (cc (er true) (cc h3 (cc (er true) nn)))))))))))))))))))))))) (by kernel_rfl)
theorem bs_3  {a b d e : List Fq}   {q j : Int}
    (h1 : Den PP 9 [(FL a), (num .i64 (8:Int)), (num .i64 (2:Int))] [(FL a), (num .i64 (8:Int)), (num .i64 (2:Int))] (bl false))
    (h2 : Den PP 9 [(FL b), (num .i64 (8:Int)), (num .i64 (2:Int))] [(FL b), (num .i64 (8:Int)), (num .i64 (2:Int))] (bl false))
    (h3 : Den PP 9 [(FL d), (num .i64 (8:Int)), (num .i64 (2:Int))] [(FL d), (num .i64 (8:Int)), (num .i64 (2:Int))] (bl true))
    (h4 : Den PP 10 [] [] (bl true)) :
    Goes E5 B5 [(0, (GS a b)), (1, (GS d e)), (2, (AR q j))] .ret [(6, (bl true))] :=
  pathG [.r [] [0, 1, 2, 3, 4, 5, 6], .r [.c [(FL a), (num .i64 (8:Int)), (num .i64 (2:Int))] [(FL a), (num .i64 (8:Int)), (num .i64 (2:Int))] (bl false), .b false, .b false, .b false, .c [(FL b), (num .i64 (8:Int)), (num .i64 (2:Int))] [(FL b), (num .i64 (8:Int)), (num .i64 (2:Int))] (bl false), .b false, .b false, .b false, .c [(FL d), (num .i64 (8:Int)), (num .i64 (2:Int))] [(FL d), (num .i64 (8:Int)), (num .i64 (2:Int))] (bl true), .b true, .b true, .b true] [0, 1, 2, 3, 4, 5, 6, 38], .t true, .r [.c [] [] (bl true)] [0, 1, 2, 3, 4, 5, 6, 38]] ((cc (fq a.length 3 (ff a)) (cc (er (8:Int)) (cc (er (2:Int)) (cc h1 (cc (er false) (cc (er false) (cc (er false) (cc (fq b.length 3 (ff b)) (cc (er (8:Int)) (cc (er (2:Int)) (cc h2 (cc tt (cc (bf true (er false) (er false)) (cc (bf true (er false) (er false)) (cc (bf true (er false) (er false)) (cc (fq d.length 3 (ff d)) (cc (er (8:Int)) (cc (er (2:Int)) (cc h3 (cc tt (cc (bf true (bf true (er false) (er false)) (er true)) (cc (bf true (bf true (er false) (er false)) (er true)) (cc (bf true (bf true (er false) (er false)) (er true)) (cc (bf true (bf true (er false) (er false)) (er true)) (cc (er true) (cc h4 (cc (er true) nn)))))))))))))))))))))))))))) (by kernel_rfl)
theorem bs_4  {a b d e : List Fq}   {q j : Int}
    (h1 : Den PP 9 [(FL a), (num .i64 (8:Int)), (num .i64 (2:Int))] [(FL a), (num .i64 (8:Int)), (num .i64 (2:Int))] (bl false))
    (h2 : Den PP 9 [(FL b), (num .i64 (8:Int)), (num .i64 (2:Int))] [(FL b), (num .i64 (8:Int)), (num .i64 (2:Int))] (bl false))
    (h3 : Den PP 9 [(FL d), (num .i64 (8:Int)), (num .i64 (2:Int))] [(FL d), (num .i64 (8:Int)), (num .i64 (2:Int))] (bl false))
    (h4 : Den PP 9 [(FL e), (num .i64 (8:Int)), (num .i64 (2:Int))] [(FL e), (num .i64 (8:Int)), (num .i64 (2:Int))] (bl true))
    (h5 : Den PP 10 [] [] (bl true)) :
    Goes E5 B5 [(0, (GS a b)), (1, (GS d e)), (2, (AR q j))] .ret [(6, (bl true))] :=
  pathG [.r [] [0, 1, 2, 3, 4, 5, 6], .r [.c [(FL a), (num .i64 (8:Int)), (num .i64 (2:Int))] [(FL a), (num .i64 (8:Int)), (num .i64 (2:Int))] (bl false), .b false, .b false, .b false, .c [(FL b), (num .i64 (8:Int)), (num .i64 (2:Int))] [(FL b), (num .i64 (8:Int)), (num .i64 (2:Int))] (bl false), .b false, .b false, .b false, .c [(FL d), (num .i64 (8:Int)), (num .i64 (2:Int))] [(FL d), (num .i64 (8:Int)), (num .i64 (2:Int))] (bl false), .b false, .b false, .b false, .c [(FL e), (num .i64 (8:Int)), (num .i64 (2:Int))] [(FL e), (num .i64 (8:Int)), (num .i64 (2:Int))] (bl true)] [0, 1, 2, 3, 4, 5, 6, 38], .t true, .r [.c [] [] (bl true)] [0, 1, 2, 3, 4, 5, 6, 38]] ((cc (fq a.length 3 (ff a)) (cc (er (8:Int)) (cc (er (2:Int)) (cc h1 (cc (er false) (cc (er false) (cc (er false) (cc (fq b.length 3 (ff b)) (cc (er (8:Int)) (cc (er (2:Int)) (cc h2 (cc tt (cc (bf true (er false) (er false)) (cc (bf true (er false) (er false)) (cc (bf true (er false) (er false)) (cc (fq d.length 3 (ff d)) (cc (er (8:Int)) (cc (er (2:Int)) (cc h3 (cc tt (cc (bf true (bf true (er false) (er false)) (er false)) (cc (bf true (bf true (er false) (er false)) (er false)) (cc (bf true (bf true (er false) (er false)) (er false)) (cc (fq e.length 3 (ff e)) (cc (er (8:Int)) (cc (er (2:Int)) (cc h4 (cc tt (cc (bf true (bf true (bf true (er false) (er false)) (er false)) (er true)) (cc h5 (cc (er true) nn)))))))))))))))))))))))))))))))) (by kernel_rfl)
theorem bs_t  {a b d e u v l m a1 b1 d1 e1 s1 s2 z1 z2 : List Fq}  {x y z g h : Fq} {q j : Int}
    (h1 : Den PP 9 [(FL a), (num .i64 (8:Int)), (num .i64 (2:Int))] [(FL a), (num .i64 (8:Int)), (num .i64 (2:Int))] (bl false))
    (h2 : Den PP 9 [(FL b), (num .i64 (8:Int)), (num .i64 (2:Int))] [(FL b), (num .i64 (8:Int)), (num .i64 (2:Int))] (bl false))
    (h3 : Den PP 9 [(FL d), (num .i64 (8:Int)), (num .i64 (2:Int))] [(FL d), (num .i64 (8:Int)), (num .i64 (2:Int))] (bl false))
    (h4 : Den PP 9 [(FL e), (num .i64 (8:Int)), (num .i64 (2:Int))] [(FL e), (num .i64 (8:Int)), (num .i64 (2:Int))] (bl false))
    (h5 : Den PP 14 [(FL a)] [(FL a)] (FL a))
    (h6 : Den PP 14 [(FL b)] [(FL b)] (FL b))
    (h7 : Den PP 14 [(FL d)] [(FL d)] (FL d))
    (h8 : Den PP 14 [(FL e)] [(FL e)] (FL e))
    (h9 : Den PP 25 [(num .i64 q), (num .i64 j)] [(num .i64 q), (num .i64 j)] (GS u v))
    (h10 : Den PP 23 [(GS a b), (GS d e)] [(GS a b), (GS d e)] (.tup [(true, [(.d (.sf 3 l.length (ff l))), (.d (.sf 3 m.length (ff m)))]), (false, [(.d (.v (.bool true)))])]))
    (h11 : Den PP 26 [(GS a b), (FL d), (FL e)] [(GS a b), (FL d), (FL e)] (.tup [(true, [(.d (.v (.bool x.neg))), (.d (.sf 1 x.n.length (wf x.n))), (.d (.sf 1 x.d.length (wf x.d)))]), (false, [(.d (.v (.bool true)))])]))
    (h12 : Den PP 27 [(num .i64 (0:Int))] [(num .i64 (0:Int))] (FS z))
    (h13 : Den PP 20 [(FL a)] [(FL a)] (FL a1))
    (h14 : Den PP 20 [(FL b)] [(FL b)] (FL b1))
    (h15 : Den PP 20 [(FL d)] [(FL d)] (FL d1))
    (h16 : Den PP 20 [(FL e)] [(FL e)] (FL e1))
    (h17 : Den PP 28 [(FL a1), (FL d1)] [(FL a1), (FL d1)] (FL s1))
    (h18 : Den PP 28 [(FL b1), (FL e1)] [(FL b1), (FL e1)] (FL s2))
    (h19 : Den PP 30 [(FL a1), (FL d1)] [(FL a1), (FL d1)] (FS g))
    (h20 : Den PP 30 [(FL b1), (FL e1)] [(FL b1), (FL e1)] (FS h))
    (h21 : Den PP 29 [(FS g), (FS h)] [(FS g), (FS h)] (FS y))
    (h22 : Den PP 17 [(GS u v)] [(GS u v)] (GS u v))
    (h23 : Den PP 31 [(num .i64 q)] [(num .i64 q)] (FL z1))
    (h24 : Den PP 31 [(num .i64 j)] [(num .i64 j)] (FL z2))
    (h25 : Den PP 16 [(GS u v), (GS z1 z2)] [(GS u v), (GS z1 z2)] (bl true))
    (h26 : Den PP 17 [(GS l m)] [(GS l m)] (GS l m))
    (h27 : Den PP 16 [(GS l m), (GS s1 s2)] [(GS l m), (GS s1 s2)] (bl true))
    (h28 : Den PP 32 [(FS x), (FS y)] [(FS x), (FS y)] (bl true))
    (h29 : Den PP 10 [] [] (bl true))
    (h30 : idx 2 (0:Int))
    (h31 : idx 2 (1:Int))
    (h32 : ((a.length : Int) == (d.length : Int)) = true)
    (h33 : ((b.length : Int) == (e.length : Int)) = true)
    (h34 : (true == (bif ((a.length : Int) == (d.length : Int)) then ((b.length : Int) == (e.length : Int)) else false)) = true) :
    Goes E5 B5 [(0, (GS a b)), (1, (GS d e)), (2, (AR q j))] .ret [(6, (bl true))] :=
  pathG [.r [] [0, 1, 2, 3, 4, 5, 6], .r [.c [(FL a), (num .i64 (8:Int)), (num .i64 (2:Int))] [(FL a), (num .i64 (8:Int)), (num .i64 (2:Int))] (bl false), .b false, .b false, .b false, .c [(FL b), (num .i64 (8:Int)), (num .i64 (2:Int))] [(FL b), (num .i64 (8:Int)), (num .i64 (2:Int))] (bl false), .b false, .b false, .b false, .c [(FL d), (num .i64 (8:Int)), (num .i64 (2:Int))] [(FL d), (num .i64 (8:Int)), (num .i64 (2:Int))] (bl false), .b false, .b false, .b false, .c [(FL e), (num .i64 (8:Int)), (num .i64 (2:Int))] [(FL e), (num .i64 (8:Int)), (num .i64 (2:Int))] (bl false)] [0, 1, 2, 3, 4, 5, 6, 38], .t false, .r [.c [(FL a)] [(FL a)] (FL a), .c [(FL b)] [(FL b)] (FL b)] [0, 1, 2, 3, 4, 5, 6, 7, 38], .r [.c [(FL d)] [(FL d)] (FL d), .c [(FL e)] [(FL e)] (FL e)] [0, 1, 2, 3, 4, 5, 6, 7, 8, 38], .r [.c [(num .i64 q), (num .i64 j)] [(num .i64 q), (num .i64 j)] (GS u v)] [0, 1, 2, 3, 4, 5, 6, 7, 8, 9, 38], .r [.c [(GS a b), (GS d e)] [(GS a b), (GS d e)] (.tup [(true, [(.d (.sf 3 l.length (ff l))), (.d (.sf 3 m.length (ff m)))]), (false, [(.d (.v (.bool true)))])])] [0, 1, 2, 3, 4, 5, 6, 7, 8, 9, 10, 11, 38], .r [.c [(GS a b), (FL d), (FL e)] [(GS a b), (FL d), (FL e)] (.tup [(true, [(.d (.v (.bool x.neg))), (.d (.sf 1 x.n.length (wf x.n))), (.d (.sf 1 x.d.length (wf x.d)))]), (false, [(.d (.v (.bool true)))])])] [0, 1, 2, 3, 4, 5, 6, 7, 8, 9, 10, 11, 12, 13, 38], .r [.b true, .b true, .b true, .b true, .b true, .b true, .b true] [0, 1, 2, 3, 4, 5, 6, 7, 8, 9, 10, 11, 12, 13, 14, 38], .r [] [0, 1, 2, 3, 4, 5, 6, 7, 8, 9, 10, 11, 12, 13, 14, 15, 38], .r [.c [(num .i64 (0:Int))] [(num .i64 (0:Int))] (FS z)] [0, 1, 2, 3, 4, 5, 6, 7, 8, 9, 10, 11, 12, 13, 14, 15, 16, 38], .r [] [0, 1, 2, 3, 4, 5, 6, 7, 8, 9, 10, 11, 12, 13, 14, 15, 16, 38, 92], .t true, .r [.c [(FL a)] [(FL a)] (FL a1)] [0, 1, 2, 3, 4, 5, 6, 7, 8, 9, 10, 11, 12, 13, 14, 15, 16, 17, 38, 92], .r [.c [(FL b)] [(FL b)] (FL b1)] [0, 1, 2, 3, 4, 5, 6, 7, 8, 9, 10, 11, 12, 13, 14, 15, 16, 17, 18, 38, 92], .r [.c [(FL d)] [(FL d)] (FL d1)] [0, 1, 2, 3, 4, 5, 6, 7, 8, 9, 10, 11, 12, 13, 14, 15, 16, 17, 18, 19, 38, 92], .r [.c [(FL e)] [(FL e)] (FL e1)] [0, 1, 2, 3, 4, 5, 6, 7, 8, 9, 10, 11, 12, 13, 14, 15, 16, 17, 18, 19, 20, 38, 92], .r [.c [(FL a1), (FL d1)] [(FL a1), (FL d1)] (FL s1), .c [(FL b1), (FL e1)] [(FL b1), (FL e1)] (FL s2)] [0, 1, 2, 3, 4, 5, 6, 7, 8, 9, 10, 11, 12, 13, 14, 15, 16, 17, 18, 19, 20, 38, 92], .r [.c [(FL a1), (FL d1)] [(FL a1), (FL d1)] (FS g), .c [(FL b1), (FL e1)] [(FL b1), (FL e1)] (FS h), .c [(FS g), (FS h)] [(FS g), (FS h)] (FS y)] [0, 1, 2, 3, 4, 5, 6, 7, 8, 9, 10, 11, 12, 13, 14, 15, 16, 17, 18, 19, 20, 38, 92], .r [.c [(GS u v)] [(GS u v)] (GS u v), .c [(num .i64 q)] [(num .i64 q)] (FL z1), .c [(num .i64 j)] [(num .i64 j)] (FL z2), .c [(GS u v), (GS z1 z2)] [(GS u v), (GS z1 z2)] (bl true), .b true, .b true, .c [(GS l m)] [(GS l m)] (GS l m), .b true, .b true, .c [(GS l m), (GS s1 s2)] [(GS l m), (GS s1 s2)] (bl true), .b true, .b true, .b true, .b true, .b true, .b true, .c [(FS x), (FS y)] [(FS x), (FS y)] (bl true), .b true, .b true, .b true, .b true, .c [] [] (bl true)] [0, 1, 2, 3, 4, 5, 6, 7, 8, 9, 10, 11, 12, 13, 14, 15, 16, 17, 18, 19, 20, 38, 92]] ((cc (fq a.length 3 (ff a)) (cc (er (8:Int)) (cc (er (2:Int)) (cc h1 (cc (er false) (cc (er false) (cc (er false) (cc (fq b.length 3 (ff b)) (cc (er (8:Int)) (cc (er (2:Int)) (cc h2 (cc tt (cc (bf true (er false) (er false)) (cc (bf true (er false) (er false)) (cc (bf true (er false) (er false)) (cc (fq d.length 3 (ff d)) (cc (er (8:Int)) (cc (er (2:Int)) (cc h3 (cc tt (cc (bf true (bf true (er false) (er false)) (er false)) (cc (bf true (bf true (er false) (er false)) (er false)) (cc (bf true (bf true (er false) (er false)) (er false)) (cc (fq e.length 3 (ff e)) (cc (er (8:Int)) (cc (er (2:Int)) (cc h4 (cc tt (cc (bf true (bf true (bf true (er false) (er false)) (er false)) (er false)) (cc (fq a.length 3 (ff a)) (cc h5 (cc (fq b.length 3 (ff b)) (cc h6 (cc (fq d.length 3 (ff d)) (cc h7 (cc (fq e.length 3 (ff e)) (cc h8 (cc h30 (cc h31 (cc (er q) (cc (er j) (cc h9 (cc (fq a.length 3 (ff a)) (cc (fq b.length 3 (ff b)) (cc (fq d.length 3 (ff d)) (cc (fq e.length 3 (ff e)) (cc h10 (cc (fq a.length 3 (ff a)) (cc (fq b.length 3 (ff b)) (cc (fq d.length 3 (ff d)) (cc (fq e.length 3 (ff e)) (cc h11 (cc h32 (cc h32 (cc h32 (cc h32 (cc h32 (cc h32 (cc h32 (cc tt (cc (er (0:Int)) (cc h12 (cc (bt false h32 h33) (cc (fq a.length 3 (ff a)) (cc h13 (cc (fq b.length 3 (ff b)) (cc h14 (cc (fq d.length 3 (ff d)) (cc h15 (cc (fq e.length 3 (ff e)) (cc h16 (cc (fq a1.length 3 (ff a1)) (cc (fq d1.length 3 (ff d1)) (cc h17 (cc (fq b1.length 3 (ff b1)) (cc (fq e1.length 3 (ff e1)) (cc h18 (cc (fq a1.length 3 (ff a1)) (cc (fq d1.length 3 (ff d1)) (cc h19 (cc (fq b1.length 3 (ff b1)) (cc (fq e1.length 3 (ff e1)) (cc h20 (cc (er g.neg) (cc (fq g.n.length 1 (wf g.n)) (cc (fq g.d.length 1 (wf g.d)) (cc (er h.neg) (cc (fq h.n.length 1 (wf h.n)) (cc (fq h.d.length 1 (wf h.d)) (cc h21 (cc (fq u.length 3 (ff u)) (cc (fq v.length 3 (ff v)) (cc h22 (cc h30 (cc (er q) (cc h23 (cc h31 (cc (er j) (cc h24 (cc (fq u.length 3 (ff u)) (cc (fq v.length 3 (ff v)) (cc (fq z1.length 3 (ff z1)) (cc (fq z2.length 3 (ff z2)) (cc h25 (cc (er true) (cc (er true) (cc (fq l.length 3 (ff l)) (cc (fq m.length 3 (ff m)) (cc h26 (cc (er true) (cc (er true) (cc (fq l.length 3 (ff l)) (cc (fq m.length 3 (ff m)) (cc (fq s1.length 3 (ff s1)) (cc (fq s2.length 3 (ff s2)) (cc h27 (cc tt (cc (bt false (er true) (er true)) (cc (bt false (er true) (er true)) (cc (bt false (er true) (er true)) (cc tt (cc (bt false (bt false (er true) (er true)) h34) (cc (bt false (bt false (er true) (er true)) h34) (cc (bt false (bt false (er true) (er true)) h34) (cc (er x.neg) (cc (fq x.n.length 1 (wf x.n)) (cc (fq x.d.length 1 (wf x.d)) (cc (er y.neg) (cc (fq y.n.length 1 (wf y.n)) (cc (fq y.d.length 1 (wf y.d)) (cc h28 (cc tt (cc (bt false (bt false (bt false (er true) (er true)) h34) (er true)) (cc (bt false (bt false (bt false (er true) (er true)) h34) (er true)) (cc (bt false (bt false (bt false (er true) (er true)) h34) (er true)) (cc tt (cc (bt false (bt false (bt false (bt false (er true) (er true)) h34) (er true)) h34) (cc h29 (cc tt (cc (bt false (bt false (bt false (bt false (bt false (er true) (er true)) h34) (er true)) h34) (er true)) nn))))))))))))))))))))))))))))))))))))))))))))))))))))))))))))))))))))))))))))))))))))))))))))))))))))))))))))))))))))))))))))))))))))))))))))) (by kernel_rfl)
theorem bs_f1  {a b d e u v l m z1 z2 : List Fq}  {x z : Fq} {q j : Int}
    (h1 : Den PP 9 [(FL a), (num .i64 (8:Int)), (num .i64 (2:Int))] [(FL a), (num .i64 (8:Int)), (num .i64 (2:Int))] (bl false))
    (h2 : Den PP 9 [(FL b), (num .i64 (8:Int)), (num .i64 (2:Int))] [(FL b), (num .i64 (8:Int)), (num .i64 (2:Int))] (bl false))
    (h3 : Den PP 9 [(FL d), (num .i64 (8:Int)), (num .i64 (2:Int))] [(FL d), (num .i64 (8:Int)), (num .i64 (2:Int))] (bl false))
    (h4 : Den PP 9 [(FL e), (num .i64 (8:Int)), (num .i64 (2:Int))] [(FL e), (num .i64 (8:Int)), (num .i64 (2:Int))] (bl false))
    (h5 : Den PP 14 [(FL a)] [(FL a)] (FL a))
    (h6 : Den PP 14 [(FL b)] [(FL b)] (FL b))
    (h7 : Den PP 14 [(FL d)] [(FL d)] (FL d))
    (h8 : Den PP 14 [(FL e)] [(FL e)] (FL e))
    (h9 : Den PP 25 [(num .i64 q), (num .i64 j)] [(num .i64 q), (num .i64 j)] (GS u v))
    (h10 : Den PP 23 [(GS a b), (GS d e)] [(GS a b), (GS d e)] (.tup [(true, [(.d (.sf 3 l.length (ff l))), (.d (.sf 3 m.length (ff m)))]), (false, [(.d (.v (.bool false)))])]))
    (h11 : Den PP 26 [(GS a b), (FL d), (FL e)] [(GS a b), (FL d), (FL e)] (.tup [(true, [(.d (.v (.bool x.neg))), (.d (.sf 1 x.n.length (wf x.n))), (.d (.sf 1 x.d.length (wf x.d)))]), (false, [(.d (.v (.bool false)))])]))
    (h12 : Den PP 27 [(num .i64 (0:Int))] [(num .i64 (0:Int))] (FS z))
    (h13 : Den PP 17 [(GS u v)] [(GS u v)] (GS u v))
    (h14 : Den PP 31 [(num .i64 q)] [(num .i64 q)] (FL z1))
    (h15 : Den PP 31 [(num .i64 j)] [(num .i64 j)] (FL z2))
    (h16 : Den PP 16 [(GS u v), (GS z1 z2)] [(GS u v), (GS z1 z2)] (bl true))
    (h17 : Den PP 17 [(GS l m)] [(GS l m)] (GS l m))
    (h18 : Den PP 16 [(GS l m), (GS ([] : List Fq) ([] : List Fq))] [(GS l m), (GS ([] : List Fq) ([] : List Fq))] (bl true))
    (h19 : Den PP 32 [(FS x), (FS z)] [(FS x), (FS z)] (bl true))
    (h20 : Den PP 10 [] [] (bl true))
    (h21 : idx 2 (0:Int))
    (h22 : idx 2 (1:Int))
    (h23 : ((a.length : Int) == (d.length : Int)) = false)
    (h24 : ([] : List Fq).length = 0)
    (h25 : (false == false) = true) :
    Goes E5 B5 [(0, (GS a b)), (1, (GS d e)), (2, (AR q j))] .ret [(6, (bl true))] :=
  pathG [.r [] [0, 1, 2, 3, 4, 5, 6], .r [.c [(FL a), (num .i64 (8:Int)), (num .i64 (2:Int))] [(FL a), (num .i64 (8:Int)), (num .i64 (2:Int))] (bl false), .b false, .b false, .b false, .c [(FL b), (num .i64 (8:Int)), (num .i64 (2:Int))] [(FL b), (num .i64 (8:Int)), (num .i64 (2:Int))] (bl false), .b false, .b false, .b false, .c [(FL d), (num .i64 (8:Int)), (num .i64 (2:Int))] [(FL d), (num .i64 (8:Int)), (num .i64 (2:Int))] (bl false), .b false, .b false, .b false, .c [(FL e), (num .i64 (8:Int)), (num .i64 (2:Int))] [(FL e), (num .i64 (8:Int)), (num .i64 (2:Int))] (bl false)] [0, 1, 2, 3, 4, 5, 6, 38], .t false, .r [.c [(FL a)] [(FL a)] (FL a), .c [(FL b)] [(FL b)] (FL b)] [0, 1, 2, 3, 4, 5, 6, 7, 38], .r [.c [(FL d)] [(FL d)] (FL d), .c [(FL e)] [(FL e)] (FL e)] [0, 1, 2, 3, 4, 5, 6, 7, 8, 38], .r [.c [(num .i64 q), (num .i64 j)] [(num .i64 q), (num .i64 j)] (GS u v)] [0, 1, 2, 3, 4, 5, 6, 7, 8, 9, 38], .r [.c [(GS a b), (GS d e)] [(GS a b), (GS d e)] (.tup [(true, [(.d (.sf 3 l.length (ff l))), (.d (.sf 3 m.length (ff m)))]), (false, [(.d (.v (.bool false)))])])] [0, 1, 2, 3, 4, 5, 6, 7, 8, 9, 10, 11, 38], .r [.c [(GS a b), (FL d), (FL e)] [(GS a b), (FL d), (FL e)] (.tup [(true, [(.d (.v (.bool x.neg))), (.d (.sf 1 x.n.length (wf x.n))), (.d (.sf 1 x.d.length (wf x.d)))]), (false, [(.d (.v (.bool false)))])])] [0, 1, 2, 3, 4, 5, 6, 7, 8, 9, 10, 11, 12, 13, 38], .r [.b false, .b false, .b false, .b false, .b false, .b false, .b false] [0, 1, 2, 3, 4, 5, 6, 7, 8, 9, 10, 11, 12, 13, 14, 38], .r [] [0, 1, 2, 3, 4, 5, 6, 7, 8, 9, 10, 11, 12, 13, 14, 15, 38], .r [.c [(num .i64 (0:Int))] [(num .i64 (0:Int))] (FS z)] [0, 1, 2, 3, 4, 5, 6, 7, 8, 9, 10, 11, 12, 13, 14, 15, 16, 38], .r [] [0, 1, 2, 3, 4, 5, 6, 7, 8, 9, 10, 11, 12, 13, 14, 15, 16, 38, 92], .t false, .r [.c [(GS u v)] [(GS u v)] (GS u v), .c [(num .i64 q)] [(num .i64 q)] (FL z1), .c [(num .i64 j)] [(num .i64 j)] (FL z2), .c [(GS u v), (GS z1 z2)] [(GS u v), (GS z1 z2)] (bl true), .b true, .b true, .c [(GS l m)] [(GS l m)] (GS l m), .b true, .b true, .c [(GS l m), (GS ([] : List Fq) ([] : List Fq))] [(GS l m), (GS ([] : List Fq) ([] : List Fq))] (bl true), .b true, .b true, .b true, .b true, .b true, .b true, .c [(FS x), (FS z)] [(FS x), (FS z)] (bl true), .b true, .b true, .b true, .b true, .c [] [] (bl true)] [0, 1, 2, 3, 4, 5, 6, 7, 8, 9, 10, 11, 12, 13, 14, 15, 16, 38, 92]] ((cc (fq a.length 3 (ff a)) (cc (er (8:Int)) (cc (er (2:Int)) (cc h1 (cc (er false) (cc (er false) (cc (er false) (cc (fq b.length 3 (ff b)) (cc (er (8:Int)) (cc (er (2:Int)) (cc h2 (cc tt (cc (bf true (er false) (er false)) (cc (bf true (er false) (er false)) (cc (bf true (er false) (er false)) (cc (fq d.length 3 (ff d)) (cc (er (8:Int)) (cc (er (2:Int)) (cc h3 (cc tt (cc (bf true (bf true (er false) (er false)) (er false)) (cc (bf true (bf true (er false) (er false)) (er false)) (cc (bf true (bf true (er false) (er false)) (er false)) (cc (fq e.length 3 (ff e)) (cc (er (8:Int)) (cc (er (2:Int)) (cc h4 (cc tt (cc (bf true (bf true (bf true (er false) (er false)) (er false)) (er false)) (cc (fq a.length 3 (ff a)) (cc h5 (cc (fq b.length 3 (ff b)) (cc h6 (cc (fq d.length 3 (ff d)) (cc h7 (cc (fq e.length 3 (ff e)) (cc h8 (cc h21 (cc h22 (cc (er q) (cc (er j) (cc h9 (cc (fq a.length 3 (ff a)) (cc (fq b.length 3 (ff b)) (cc (fq d.length 3 (ff d)) (cc (fq e.length 3 (ff e)) (cc h10 (cc (fq a.length 3 (ff a)) (cc (fq b.length 3 (ff b)) (cc (fq d.length 3 (ff d)) (cc (fq e.length 3 (ff e)) (cc h11 (cc h23 (cc h23 (cc h23 (cc h23 (cc h23 (cc h23 (cc h23 (cc h23 (cc (er (0:Int)) (cc h12 (cc (er false) (cc (fq u.length 3 (ff u)) (cc (fq v.length 3 (ff v)) (cc h13 (cc h21 (cc (er q) (cc h14 (cc h22 (cc (er j) (cc h15 (cc (fq u.length 3 (ff u)) (cc (fq v.length 3 (ff v)) (cc (fq z1.length 3 (ff z1)) (cc (fq z2.length 3 (ff z2)) (cc h16 (cc (er true) (cc (er true) (cc (fq l.length 3 (ff l)) (cc (fq m.length 3 (ff m)) (cc h17 (cc (er true) (cc (er true) (cc (fq l.length 3 (ff l)) (cc (fq m.length 3 (ff m)) (cc h24 (cc h24 (cc h18 (cc tt (cc (bt false (er true) (er true)) (cc (bt false (er true) (er true)) (cc (bt false (er true) (er true)) (cc tt (cc (bt false (bt false (er true) (er true)) h25) (cc (bt false (bt false (er true) (er true)) h25) (cc (bt false (bt false (er true) (er true)) h25) (cc (er x.neg) (cc (fq x.n.length 1 (wf x.n)) (cc (fq x.d.length 1 (wf x.d)) (cc (er z.neg) (cc (fq z.n.length 1 (wf z.n)) (cc (fq z.d.length 1 (wf z.d)) (cc h19 (cc tt (cc (bt false (bt false (bt false (er true) (er true)) h25) (er true)) (cc (bt false (bt false (bt false (er true) (er true)) h25) (er true)) (cc (bt false (bt false (bt false (er true) (er true)) h25) (er true)) (cc tt (cc (bt false (bt false (bt false (bt false (er true) (er true)) h25) (er true)) h25) (cc h20 (cc tt (cc (bt false (bt false (bt false (bt false (bt false (er true) (er true)) h25) (er true)) h25) (er true)) nn)))))))))))))))))))))))))))))))))))))))))))))))))))))))))))))))))))))))))))))))))))))))))))))))))))))))))))))))))) (by kernel_rfl)
theorem bs_f2  {a b d e u v l m z1 z2 : List Fq}  {x z : Fq} {q j : Int}
    (h1 : Den PP 9 [(FL a), (num .i64 (8:Int)), (num .i64 (2:Int))] [(FL a), (num .i64 (8:Int)), (num .i64 (2:Int))] (bl false))
    (h2 : Den PP 9 [(FL b), (num .i64 (8:Int)), (num .i64 (2:Int))] [(FL b), (num .i64 (8:Int)), (num .i64 (2:Int))] (bl false))
    (h3 : Den PP 9 [(FL d), (num .i64 (8:Int)), (num .i64 (2:Int))] [(FL d), (num .i64 (8:Int)), (num .i64 (2:Int))] (bl false))
    (h4 : Den PP 9 [(FL e), (num .i64 (8:Int)), (num .i64 (2:Int))] [(FL e), (num .i64 (8:Int)), (num .i64 (2:Int))] (bl false))
    (h5 : Den PP 14 [(FL a)] [(FL a)] (FL a))
    (h6 : Den PP 14 [(FL b)] [(FL b)] (FL b))
    (h7 : Den PP 14 [(FL d)] [(FL d)] (FL d))
    (h8 : Den PP 14 [(FL e)] [(FL e)] (FL e))
    (h9 : Den PP 25 [(num .i64 q), (num .i64 j)] [(num .i64 q), (num .i64 j)] (GS u v))
    (h10 : Den PP 23 [(GS a b), (GS d e)] [(GS a b), (GS d e)] (.tup [(true, [(.d (.sf 3 l.length (ff l))), (.d (.sf 3 m.length (ff m)))]), (false, [(.d (.v (.bool false)))])]))
    (h11 : Den PP 26 [(GS a b), (FL d), (FL e)] [(GS a b), (FL d), (FL e)] (.tup [(true, [(.d (.v (.bool x.neg))), (.d (.sf 1 x.n.length (wf x.n))), (.d (.sf 1 x.d.length (wf x.d)))]), (false, [(.d (.v (.bool false)))])]))
    (h12 : Den PP 27 [(num .i64 (0:Int))] [(num .i64 (0:Int))] (FS z))
    (h13 : Den PP 17 [(GS u v)] [(GS u v)] (GS u v))
    (h14 : Den PP 31 [(num .i64 q)] [(num .i64 q)] (FL z1))
    (h15 : Den PP 31 [(num .i64 j)] [(num .i64 j)] (FL z2))
    (h16 : Den PP 16 [(GS u v), (GS z1 z2)] [(GS u v), (GS z1 z2)] (bl true))
    (h17 : Den PP 17 [(GS l m)] [(GS l m)] (GS l m))
    (h18 : Den PP 16 [(GS l m), (GS ([] : List Fq) ([] : List Fq))] [(GS l m), (GS ([] : List Fq) ([] : List Fq))] (bl true))
    (h19 : Den PP 32 [(FS x), (FS z)] [(FS x), (FS z)] (bl true))
    (h20 : Den PP 10 [] [] (bl true))
    (h21 : idx 2 (0:Int))
    (h22 : idx 2 (1:Int))
    (h23 : ((a.length : Int) == (d.length : Int)) = true)
    (h24 : ((b.length : Int) == (e.length : Int)) = false)
    (h25 : ([] : List Fq).length = 0)
    (h26 : (false == (bif ((a.length : Int) == (d.length : Int)) then ((b.length : Int) == (e.length : Int)) else false)) = true) :
    Goes E5 B5 [(0, (GS a b)), (1, (GS d e)), (2, (AR q j))] .ret [(6, (bl true))] :=
  pathG [.r [] [0, 1, 2, 3, 4, 5, 6], .r [.c [(FL a), (num .i64 (8:Int)), (num .i64 (2:Int))] [(FL a), (num .i64 (8:Int)), (num .i64 (2:Int))] (bl false), .b false, .b false, .b false, .c [(FL b), (num .i64 (8:Int)), (num .i64 (2:Int))] [(FL b), (num .i64 (8:Int)), (num .i64 (2:Int))] (bl false), .b false, .b false, .b false, .c [(FL d), (num .i64 (8:Int)), (num .i64 (2:Int))] [(FL d), (num .i64 (8:Int)), (num .i64 (2:Int))] (bl false), .b false, .b false, .b false, .c [(FL e), (num .i64 (8:Int)), (num .i64 (2:Int))] [(FL e), (num .i64 (8:Int)), (num .i64 (2:Int))] (bl false)] [0, 1, 2, 3, 4, 5, 6, 38], .t false, .r [.c [(FL a)] [(FL a)] (FL a), .c [(FL b)] [(FL b)] (FL b)] [0, 1, 2, 3, 4, 5, 6, 7, 38], .r [.c [(FL d)] [(FL d)] (FL d), .c [(FL e)] [(FL e)] (FL e)] [0, 1, 2, 3, 4, 5, 6, 7, 8, 38], .r [.c [(num .i64 q), (num .i64 j)] [(num .i64 q), (num .i64 j)] (GS u v)] [0, 1, 2, 3, 4, 5, 6, 7, 8, 9, 38], .r [.c [(GS a b), (GS d e)] [(GS a b), (GS d e)] (.tup [(true, [(.d (.sf 3 l.length (ff l))), (.d (.sf 3 m.length (ff m)))]), (false, [(.d (.v (.bool false)))])])] [0, 1, 2, 3, 4, 5, 6, 7, 8, 9, 10, 11, 38], .r [.c [(GS a b), (FL d), (FL e)] [(GS a b), (FL d), (FL e)] (.tup [(true, [(.d (.v (.bool x.neg))), (.d (.sf 1 x.n.length (wf x.n))), (.d (.sf 1 x.d.length (wf x.d)))]), (false, [(.d (.v (.bool false)))])])] [0, 1, 2, 3, 4, 5, 6, 7, 8, 9, 10, 11, 12, 13, 38], .r [.b true, .b true, .b true, .b true, .b true, .b true, .b true] [0, 1, 2, 3, 4, 5, 6, 7, 8, 9, 10, 11, 12, 13, 14, 38], .r [] [0, 1, 2, 3, 4, 5, 6, 7, 8, 9, 10, 11, 12, 13, 14, 15, 38], .r [.c [(num .i64 (0:Int))] [(num .i64 (0:Int))] (FS z)] [0, 1, 2, 3, 4, 5, 6, 7, 8, 9, 10, 11, 12, 13, 14, 15, 16, 38], .r [] [0, 1, 2, 3, 4, 5, 6, 7, 8, 9, 10, 11, 12, 13, 14, 15, 16, 38, 92], .t false, .r [.c [(GS u v)] [(GS u v)] (GS u v), .c [(num .i64 q)] [(num .i64 q)] (FL z1), .c [(num .i64 j)] [(num .i64 j)] (FL z2), .c [(GS u v), (GS z1 z2)] [(GS u v), (GS z1 z2)] (bl true), .b true, .b true, .c [(GS l m)] [(GS l m)] (GS l m), .b true, .b true, .c [(GS l m), (GS ([] : List Fq) ([] : List Fq))] [(GS l m), (GS ([] : List Fq) ([] : List Fq))] (bl true), .b true, .b true, .b true, .b true, .b true, .b true, .c [(FS x), (FS z)] [(FS x), (FS z)] (bl true), .b true, .b true, .b true, .b true, .c [] [] (bl true)] [0, 1, 2, 3, 4, 5, 6, 7, 8, 9, 10, 11, 12, 13, 14, 15, 16, 38, 92]] ((cc (fq a.length 3 (ff a)) (cc (er (8:Int)) (cc (er (2:Int)) (cc h1 (cc (er false) (cc (er false) (cc (er false) (cc (fq b.length 3 (ff b)) (cc (er (8:Int)) (cc (er (2:Int)) (cc h2 (cc tt (cc (bf true (er false) (er false)) (cc (bf true (er false) (er false)) (cc (bf true (er false) (er false)) (cc (fq d.length 3 (ff d)) (cc (er (8:Int)) (cc (er (2:Int)) (cc h3 (cc tt (cc (bf true (bf true (er false) (er false)) (er false)) (cc (bf true (bf true (er false) (er false)) (er false)) (cc (bf true (bf true (er false) (er false)) (er false)) (cc (fq e.length 3 (ff e)) (cc (er (8:Int)) (cc (er (2:Int)) (cc h4 (cc tt (cc (bf true (bf true (bf true (er false) (er false)) (er false)) (er false)) (cc (fq a.length 3 (ff a)) (cc h5 (cc (fq b.length 3 (ff b)) (cc h6 (cc (fq d.length 3 (ff d)) (cc h7 (cc (fq e.length 3 (ff e)) (cc h8 (cc h21 (cc h22 (cc (er q) (cc (er j) (cc h9 (cc (fq a.length 3 (ff a)) (cc (fq b.length 3 (ff b)) (cc (fq d.length 3 (ff d)) (cc (fq e.length 3 (ff e)) (cc h10 (cc (fq a.length 3 (ff a)) (cc (fq b.length 3 (ff b)) (cc (fq d.length 3 (ff d)) (cc (fq e.length 3 (ff e)) (cc h11 (cc h23 (cc h23 (cc h23 (cc h23 (cc h23 (cc h23 (cc h23 (cc tt (cc (er (0:Int)) (cc h12 (cc (bt false h23 h24) (cc (fq u.length 3 (ff u)) (cc (fq v.length 3 (ff v)) (cc h13 (cc h21 (cc (er q) (cc h14 (cc h22 (cc (er j) (cc h15 (cc (fq u.length 3 (ff u)) (cc (fq v.length 3 (ff v)) (cc (fq z1.length 3 (ff z1)) (cc (fq z2.length 3 (ff z2)) (cc h16 (cc (er true) (cc (er true) (cc (fq l.length 3 (ff l)) (cc (fq m.length 3 (ff m)) (cc h17 (cc (er true) (cc (er true) (cc (fq l.length 3 (ff l)) (cc (fq m.length 3 (ff m)) (cc h25 (cc h25 (cc h18 (cc tt (cc (bt false (er true) (er true)) (cc (bt false (er true) (er true)) (cc (bt false (er true) (er true)) (cc tt (cc (bt false (bt false (er true) (er true)) h26) (cc (bt false (bt false (er true) (er true)) h26) (cc (bt false (bt false (er true) (er true)) h26) (cc (er x.neg) (cc (fq x.n.length 1 (wf x.n)) (cc (fq x.d.length 1 (wf x.d)) (cc (er z.neg) (cc (fq z.n.length 1 (wf z.n)) (cc (fq z.d.length 1 (wf z.d)) (cc h19 (cc tt (cc (bt false (bt false (bt false (er true) (er true)) h26) (er true)) (cc (bt false (bt false (bt false (er true) (er true)) h26) (er true)) (cc (bt false (bt false (bt false (er true) (er true)) h26) (er true)) (cc tt (cc (bt false (bt false (bt false (bt false (er true) (er true)) h26) (er true)) h26) (cc h20 (cc tt (cc (bt false (bt false (bt false (bt false (bt false (er true) (er true)) h26) (er true)) h26) (er true)) nn)))))))))))))))))))))))))))))))))))))))))))))))))))))))))))))))))))))))))))))))))))))))))))))))))))))))))))))))))) (by kernel_rfl)

def WdL (l : List Fq) : Prop := ∀ i, i < l.length → Wd (l.getD i fz).n ∧ Wd (l.getD i fz).d
def n300 (q : Int) : Nat := (min (max q 0) 300).toNat
theorem n300_eq (q : Int) : (n300 q : Int) = min (max q 0) 300 := by unfold n300; omega
theorem n300_le (q : Int) : n300 q ≤ 300 := by have := n300_eq q; omega
theorem back_sums (hw : Den PP 10 [] [] (bl true)) (a b d e : List Fq) (wa : WdL a) (wb : WdL b) (wd : WdL d) (we : WdL e) (q j : Int) :
    Den PP 5 [GS a b, GS d e, AR q j] [GS a b, GS d e, AR q j] (bl true) := by
  refine D5 (gout := [(6, bl true)]) (e := .ret) ?_ (by first | exact .inr rfl | exact .inl rfl) (by kernel_rfl) (by kernel_rfl)

  by_cases ha : Lng a 8 2
  · exact bs_1 (ref11_long_t a 8 2 (by omega) ha) hw
  have ca := ref11_long_f a 8 2 (by omega) ha
  by_cases hb : Lng b 8 2
  · exact bs_2 ca (ref11_long_t b 8 2 (by omega) hb) hw
  have cb := ref11_long_f b 8 2 (by omega) hb
  by_cases hd : Lng d 8 2
  · exact bs_3 ca cb (ref11_long_t d 8 2 (by omega) hd) hw
  have cd := ref11_long_f d 8 2 (by omega) hd
  by_cases he : Lng e 8 2
  · exact bs_4 ca cb cd (ref11_long_t e 8 2 (by omega) he) hw
  have ce := ref11_long_f e 8 2 (by omega) he
  obtain ⟨la, oa⟩ := not_long ha wa
  obtain ⟨lb, ob⟩ := not_long hb wb
  obtain ⟨ld, od⟩ := not_long hd wd
  obtain ⟨le, oe⟩ := not_long he we
  have va := oa.vk (by omega)
  have vb := ob.vk (by omega)
  have vd := od.vk (by omega)
  have ve := oe.vk (by omega)
  have ta := law_to11 a (by omega)
  have tb := law_to11 b (by omega)
  have td := law_to11 d (by omega)
  have te := law_to11 e (by omega)
  have hz := back_zero q j _ _ (n300_eq q) (n300_eq j)
  have z1 := ref11_zero q _ (n300_eq q)
  have z2 := ref11_zero j _ (n300_eq j)
  have lq : (rqs (noughts (n300 q))).length ≤ 300 := by rw [rqs_len, noughts_len]; exact n300_le q
  have lj : (rqs (noughts (n300 j))).length ≤ 300 := by rw [rqs_len, noughts_len]; exact n300_le j
  have oz := law35_of (rqs (noughts (n300 q))) (rqs (noughts (n300 j))) (by omega) (by omega)
  have sz := ref35_same (rqs (noughts (n300 q))) (rqs (noughts (n300 j))) (rqs (noughts (n300 q))) (rqs (noughts (n300 j))) (by omega) (by omega) (noughts_vk _ (by omega)).okL (noughts_vk _ (by omega)).okL
  rw [decide_eq_true ⟨rfl, rfl⟩] at sz
  have i0 := ref9_int 0 (by omega) (by omega)
  have x0 : idx 2 (0:Int) := ⟨by omega, by omega⟩
  have x1 : idx 2 (1:Int) := ⟨by omega, by omega⟩
  have o1 : AddOk 67108864 a d := ⟨by omega, oa.mono (by omega), od.mono (by omega), (va.mono (by omega)).okL⟩
  have o2 : AddOk 67108864 b e := ⟨by omega, ob.mono (by omega), oe.mono (by omega), (vb.mono (by omega)).okL⟩
  have ab9 : a.length = d.length → DotOkF 67108864 a d := fun h => oa.dotF (by omega) od h la (by omega) (by omega)
  have be9 : b.length = e.length → DotOkF 67108864 b e := fun h => ob.dotF (by omega) oe h lb (by omega) (by omega)
  by_cases hf : a.length = d.length ∧ b.length = e.length
  · obtain ⟨e1, e2⟩ := hf
    have e1' : (fvs a).length = (fvs d).length := by rw [fvs_len, fvs_len, e1]
    have e2' : (fvs b).length = (fvs e).length := by rw [fvs_len, fvs_len, e2]
    have la' : (fvs a).length ≤ 8 := by rw [fvs_len]; exact la
    have lb' : (fvs b).length ≤ 8 := by rw [fvs_len]; exact lb
    have hs := back_add a b d e e1 e2 o1 o2
    have hm := back_meets a b d e e1 e2 (by omega) (by omega) (ab9 e1) (be9 e2)
    have na := ref11_norms a (by omega) (oa.mono (by omega))
    have nb := ref11_norms b (by omega) (ob.mono (by omega))
    have nd := ref11_norms d (by omega) (od.mono (by omega))
    have ne := ref11_norms e (by omega) (oe.mono (by omega))
    have s1 := ref11_add (fvs a) (fvs d) e1' (by omega) (va.mono (by omega)).okL (vd.mono (by omega)).okL
    have s2 := ref11_add (fvs b) (fvs e) e2' (by omega) (vb.mono (by omega)).okL (ve.mono (by omega)).okL
    have g1 := ref11_dot (fvs a) (fvs d) e1' (by omega) (va.dot (by omega) vd e1' la' (by omega) (by omega))
    have g2 := ref11_dot (fvs b) (fvs e) e2' (by omega) (vb.dot (by omega) ve e2' lb' (by omega) (by omega))
    have k1 := ok_dotN (by omega) va vd e1' (fvs a).length (by omega)
    have k2 := ok_dotN (by omega) vb ve e2' (fvs b).length (by omega)
    have m1 : Ok 33554432 (rq (dotQ (fvs a) (fvs d))) := k1.mono (by omega)
    have m2 : Ok 33554432 (rq (dotQ (fvs b) (fvs e))) := k2.mono (by omega)
    have y := ref9_add _ _ m1 m2 (rq_d0 _) (rq_d0 _)
    rw [fv_rq, fv_rq] at y
    have k3 := ok_add m1 m2
    have os := law35_of (rqs (addQ (fvs a) (fvs d))) (rqs (addQ (fvs b) (fvs e))) (by rw [rqs_len, addQ_len _ _ e1']; omega) (by rw [rqs_len, addQ_len _ _ e2']; omega)
    have ss := ref35_same (rqs (addQ (fvs a) (fvs d))) (rqs (addQ (fvs b) (fvs e))) (rqs (addQ (fvs a) (fvs d))) (rqs (addQ (fvs b) (fvs e))) (by rw [rqs_len, addQ_len _ _ e1']; omega) (by rw [rqs_len, addQ_len _ _ e2']; omega) ((va.add vd e1').mono (by omega)).okL ((vb.add ve e2').mono (by omega)).okL
    rw [decide_eq_true ⟨rfl, rfl⟩] at ss
    have is := law9_is (rq (dotQ (fvs a) (fvs d) + dotQ (fvs b) (fvs e))) (rq (dotQ (fvs a) (fvs d) + dotQ (fvs b) (fvs e))) (Nat.le_trans k3.ln (by omega)) (Nat.le_trans k3.ld (by omega))
    rw [decide_eq_true rfl] at is
    have q1 : ((a.length : Int) == (d.length : Int)) = true := by rw [e1]; simp
    have q2 : ((b.length : Int) == (e.length : Int)) = true := by rw [e2]; simp
    exact bs_t ca cb cd ce ta tb td te hz hs hm i0 na nb nd ne s1 s2 g1 g2 y oz z1 z2 sz os ss is hw x0 x1 q1 q2 (by rw [q1, q2]; rfl)
  · have hs := back_add_no a b d e hf o1 o2
    have hm := back_meets_no a b d e hf (by omega) (by omega) ab9 be9
    have os := law35_of [] [] (by simp) (by simp)
    have ss := ref35_same [] [] [] [] (by simp) (by simp) (fun i hi => absurd hi (Nat.not_lt_zero _)) (fun i hi => absurd hi (Nat.not_lt_zero _))
    rw [decide_eq_true ⟨rfl, rfl⟩] at ss
    have is := law9_is (rq 0) (rq 0) (by rw [rq_zero]; simp) (by rw [rq_zero]; simp)
    rw [decide_eq_true rfl] at is
    by_cases h1 : a.length = d.length
    · have h2 : b.length ≠ e.length := fun h2 => hf ⟨h1, h2⟩
      have q1 : ((a.length : Int) == (d.length : Int)) = true := by rw [h1]; simp
      have q2 : ((b.length : Int) == (e.length : Int)) = false := by simpa using by omega
      exact bs_f2 ca cb cd ce ta tb td te hz hs hm i0 oz z1 z2 sz os ss is hw x0 x1 q1 q2 rfl (by rw [q1, q2]; rfl)
    · have q1 : ((a.length : Int) == (d.length : Int)) = false := by simpa using by omega
      exact bs_f1 ca cb cd ce ta tb td te hz hs hm i0 oz z1 z2 sz os ss is hw x0 x1 q1 rfl rfl
end Go.X
namespace Go.X
open Go
/-- all cells of a world that can be read -/
def hpOf (w : World) : Hp := ⟨fun b i => w.cell? ⟨b, i, none⟩, fun _ => none⟩
theorem hpOf_holds (w : World) : (hpOf w).holds w := ⟨fun _ _ _ h => h, (by intro b l h; cases h), (by intro b l i h; cases h)⟩
theorem gather {α : Type} (d : α) {p : Nat → α → Prop} : ∀ n, (∀ j, j < n → ∃ x, p j x) → ∃ l : List α, l.length = n ∧ ∀ j, j < n → p j (l.getD j d)
  | 0, _ => ⟨[], rfl, fun j hj => absurd hj (Nat.not_lt_zero _)⟩
  | n + 1, h => by
    obtain ⟨l, hl, hp⟩ := gather d n fun j hj => h j (by omega)
    obtain ⟨x, hx⟩ := h n (by omega)
    refine ⟨l ++ [x], by simp [hl], fun j hj => ?_⟩
    by_cases hj' : j < n
    · have : (l ++ [x]).getD j d = l.getD j d := by simp [List.getD, List.getElem?_append_left (by omega : j < l.length)]
      rw [this]; exact hp j hj'
    · have hj2 : j = n := by omega
      subst hj2
      have : (l ++ [x]).getD j d = x := by simp [List.getD, ← hl]
      rw [this]; exact hx
section
variable {H : Type} {enc : TypeId × Value → H} {P : Program} {w : World} {base : Nat} {spare : Nat → Bool} {held : Bool}
theorem cells_at {a : Addr} {n : Nat} {cs : List Value} (h : w.cells? base a n = some cs) : cs.length = n ∧ ∀ i, i < n → ∃ u, cs[i]? = some u ∧ w.cell? (a.add i) = some u := by
  obtain ⟨_, h1, h2⟩ := World.cells?_some h
  refine ⟨h1, fun i hi => ?_⟩
  have := h2 i hi
  rw [List.getElem?_eq_getElem (by omega)] at this
  exact ⟨_, List.getElem?_eq_getElem (by omega), this⟩
/-- a slice of things of sz cells each -/
theorem slice_tells {t e : TypeId} {sz fuel : Nat} {v : Value} {x : DataW H × List MemPlace} (ht : P.underlying t = some (.slice e)) (hsz : P.cellsOf e = sz) (hpos : 0 < sz)
    (h : DataW.trod enc P w base spare held fuel t [v] = some x) :
    ∃ ad n cap, v = .slice ad n cap ∧ n ≤ cap ∧ (n = 0 ∨ ∃ b o, ad = some ⟨b, o, none⟩ ∧ ∀ j, j < n → ∃ cs m y, cs.length = sz ∧ (∀ i, i < sz → ∃ u, cs[i]? = some u ∧ w.cell? ⟨b, o + (j * sz + i), none⟩ = some u) ∧ DataW.trod enc P w base spare held m e cs = some y) := by
  rcases DataW.trod_slice ht h with ⟨hc, _⟩ | ⟨a, len, cap, elems, rest, m, _, hc, _, _, hlc, _, hel, he, _, _⟩
  · injection hc with hc _
    exact ⟨none, 0, 0, hc, Nat.le_refl _, .inl rfl⟩
  · injection hc with hc _
    refine ⟨some a, len, cap, hc, hlc, ?_⟩
    by_cases h0 : len = 0
    · exact .inl h0
    · right
      have one : ∀ j, j < len → ∃ cs y, w.cells? base (a.add (j * P.cellsOf e)) (P.cellsOf e) = some cs ∧ DataW.trod enc P w base spare held m e cs = some y := by
        intro j hj
        have := he j hj
        rw [List.getElem?_eq_getElem (by omega)] at this
        obtain ⟨cs, h1, h2⟩ := Option.bind_eq_some_iff.1 this
        exact ⟨cs, _, h1, h2⟩
      have hsp : a.spot = none := by
        obtain ⟨cs, y, h1, _⟩ := one 0 (by omega)
        obtain ⟨_, h2⟩ := cells_at h1
        obtain ⟨u, _, hu⟩ := h2 0 (by omega)
        have e0 : (a.add (0 * P.cellsOf e)).add 0 = a := by simp [Addr.add]
        rw [e0] at hu
        unfold World.cell? at hu
        split at hu
        · split at hu
          · cases hu
          · rename_i hs; simpa using hs
        · cases hu
      refine ⟨a.block, a.off, by cases a; simp at hsp; subst hsp; rfl, fun j hj => ?_⟩
      obtain ⟨cs, y, h1, h2⟩ := one j hj
      obtain ⟨hl, h3⟩ := cells_at h1
      refine ⟨cs, m, y, by rw [hl, hsz], fun i hi => ?_, h2⟩
      obtain ⟨u, hu, hw⟩ := h3 i (by omega)
      refine ⟨u, hu, ?_⟩
      have ea : (a.add (j * P.cellsOf e)).add i = ⟨a.block, a.off + (j * sz + i), none⟩ := by
        rw [hsz]
        cases a with
        | mk bb oo ss =>
          simp at hsp
          subst hsp
          simp only [Addr.add]
          split <;> split <;> simp_all <;> omega
      rw [← ea]; exact hw
theorem words_tell {t e : TypeId} {fuel : Nat} {v : Value} {x : DataW H × List MemPlace} (ht : P.underlying t = some (.slice e)) (he : P.underlying e = some (.int .u32)) (hsz : P.cellsOf e = 1)
    (h : DataW.trod enc P w base spare held fuel t [v] = some x) : ∃ l : List Nat, Wd l ∧ (D.sf 1 l.length (wf l)).rep (hpOf w) v := by
  obtain ⟨ad, n, cap, rfl, hn, hor⟩ := slice_tells ht hsz (by omega) h
  rcases hor with rfl | ⟨b, o, rfl, hh⟩
  · exact ⟨[], fun x hx => by simp at hx, ad, cap, rfl, hn, .inl rfl⟩
  · obtain ⟨l, hl, hp⟩ := gather (α := Nat) 0 (p := fun j x => x < 4294967296 ∧ w.cell? ⟨b, o + (j * 1 + 0), none⟩ = some (.int .u32 (x : Int))) n (fun j hj => by
      obtain ⟨cs, m, y, hc1, hc2, hc3⟩ := hh j hj
      obtain ⟨z, rfl, _, hz⟩ := DataW.trod_int he hc3
      obtain ⟨u, hu, hw⟩ := hc2 0 (by omega)
      have hb := bounds_u32 hz
      refine ⟨z.toNat, by omega, ?_⟩
      rw [hw]
      simp at hu
      rw [← hu, Int.toNat_of_nonneg hb.1])
    refine ⟨l, fun x hx => ?_, some ⟨b, o, none⟩, cap, by rw [hl], by rw [hl]; exact hn, .inr ⟨b, o, rfl, fun j i hj hi => ?_⟩⟩
    · obtain ⟨i, hi, rfl⟩ := List.getElem_of_mem hx
      have := (hp i (by omega)).1
      simpa [List.getD, hi] using this
    · have hi0 : i = 0 := by omega
      subst hi0
      exact ⟨_, (hp j (by omega)).2, rfl, rfl⟩
end
end Go.X
namespace Go.X
open Go
section
variable {H : Type} {enc : TypeId × Value → H} {P : Program} {w : World} {base : Nat} {spare : Nat → Bool} {held : Bool}
/-- how fractions lie -/
structure FracTy (P : Program) (t : TypeId) : Prop where
  ex : ∃ f0 f1 f2 : Field, ∃ te : TypeId, P.underlying t = some (.struct #[f0, f1, f2]) ∧ f0.offset = 0 ∧ f1.offset = 1 ∧ f2.offset = 2 ∧ P.underlying f0.type = some .bool ∧ P.underlying f1.type = some (.slice te) ∧ P.underlying f2.type = some (.slice te) ∧
    P.underlying te = some (.int .u32) ∧ P.cellsOf te = 1 ∧ P.cellsOf f0.type = 1 ∧ P.cellsOf f1.type = 1 ∧ P.cellsOf f2.type = 1
  size : P.cellsOf t = 3
theorem frac_tell {t : TypeId} (T : FracTy P t) {fuel : Nat} {cs : List Value} {x : DataW H × List MemPlace} (h : DataW.trod enc P w base spare held fuel t cs = some x) :
    ∃ f : Fq, (Wd f.n ∧ Wd f.d) ∧ ∃ v0 v1 v2, cs = [v0, v1, v2] ∧ (f.c 0).rep (hpOf w) v0 ∧ (f.c 1).rep (hpOf w) v1 ∧ (f.c 2).rep (hpOf w) v2 := by
  obtain ⟨f0, f1, f2, te, ht, o0, o1, o2, u0, u1, u2, ue, ce, c0, c1, c2⟩ := T.ex
  obtain ⟨xs, n, _, _, hl, hx, hf⟩ := DataW.trod_struct ht h
  rw [T.size] at hl
  obtain ⟨v0, v1, v2, rfl⟩ : ∃ v0 v1 v2, cs = [v0, v1, v2] := by
    match cs, hl with
    | [a, b, c], _ => exact ⟨a, b, c, rfl⟩
  have hx3 : xs.length = 3 := hx
  have h0 := hf 0 f0 rfl
  have h1 := hf 1 f1 rfl
  have h2 := hf 2 f2 rfl
  rw [o0, c0, List.getElem?_eq_getElem (by omega)] at h0
  rw [o1, c1, List.getElem?_eq_getElem (by omega)] at h1
  rw [o2, c2, List.getElem?_eq_getElem (by omega)] at h2
  obtain ⟨b, hb, _⟩ := DataW.trod_bool u0 h0
  have hb : v0 = .bool b := by simpa using hb
  obtain ⟨l, wl, rl⟩ := words_tell u1 ue ce h1
  obtain ⟨m, wm, rm⟩ := words_tell u2 ue ce h2
  exact ⟨⟨b, l, m⟩, ⟨wl, wm⟩, v0, v1, v2, rfl, ⟨hb, rfl⟩, rl, rm⟩
theorem fracs_tell {t e : TypeId} (ht : P.underlying t = some (.slice e)) (T : FracTy P e) {fuel : Nat} {v : Value} {x : DataW H × List MemPlace} (h : DataW.trod enc P w base spare held fuel t [v] = some x) :
    ∃ l : List Fq, WdL l ∧ (D.sf 3 l.length (ff l)).rep (hpOf w) v := by
  obtain ⟨ad, n, cap, rfl, hn, hor⟩ := slice_tells ht T.size (by omega) h
  rcases hor with rfl | ⟨b, o, rfl, hh⟩
  · exact ⟨[], fun i hi => absurd hi (Nat.not_lt_zero _), ad, cap, rfl, hn, .inl rfl⟩
  · obtain ⟨l, hl, hp⟩ := gather (α := Fq) fz (p := fun j f => (Wd f.n ∧ Wd f.d) ∧ ∀ i, i < 3 → ∃ u, w.cell? ⟨b, o + (j * 3 + i), none⟩ = some u ∧ (f.c i).rep (hpOf w) u) n (fun j hj => by
      obtain ⟨cs, m, y, hc1, hc2, hc3⟩ := hh j hj
      obtain ⟨f, hwd, v0, v1, v2, rfl, r0, r1, r2⟩ := frac_tell T hc3
      refine ⟨f, hwd, fun i hi => ?_⟩
      obtain ⟨u, hu, hw⟩ := hc2 i hi
      refine ⟨u, hw, ?_⟩
      match i, hi with
      | 0, _ => simp at hu; rw [← hu]; exact r0
      | 1, _ => simp at hu; rw [← hu]; exact r1
      | 2, _ => simp at hu; rw [← hu]; exact r2)
    refine ⟨l, fun i hi => (hp i (by omega)).1, some ⟨b, o, none⟩, cap, by rw [hl], by rw [hl]; exact hn, .inr ⟨b, o, rfl, fun j i hj hi => ?_⟩⟩
    exact (hp j (by omega)).2 i hi
/-- how pairs of rows lie -/
structure GradTy (P : Program) (t : TypeId) : Prop where
  ex : ∃ f0 f1 : Field, ∃ te : TypeId, P.underlying t = some (.struct #[f0, f1]) ∧ f0.offset = 0 ∧ f1.offset = 1 ∧ P.underlying f0.type = some (.slice te) ∧ P.underlying f1.type = some (.slice te) ∧ FracTy P te ∧ P.cellsOf f0.type = 1 ∧ P.cellsOf f1.type = 1
  size : P.cellsOf t = 2
theorem grad_tell {t : TypeId} (T : GradTy P t) {r : Reach} {b0 : Nat} {v : Value} {d : DataW H} {ps : List MemPlace} (hv : Value.okWide P w r b0 t v) (h : DataW.Trod enc P w base spare held t v d ps) :
    ∃ a b : List Fq, WdL a ∧ WdL b ∧ Tells (hpOf w) w (GS a b) v [] := by
  obtain ⟨f0, f1, te, ht, o0, o1, u0, u1, F, c0, c1⟩ := T.ex
  obtain ⟨cs, rfl, hs⟩ := WideShapes.okWide_struct ht hv
  obtain ⟨fuel, h⟩ := h
  obtain ⟨xs, n, _, _, hl, hx, hf⟩ := DataW.trod_struct ht h
  have hx2 : xs.length = 2 := hx
  have hl2 : cs.toList.length = 2 := by
    have : (Value.agg cs).cells.toList.length = P.cellsOf t := hl
    rw [T.size] at this; exact this
  obtain ⟨v0, v1, hcs⟩ : ∃ v0 v1, cs.toList = [v0, v1] := by
    match hc : cs.toList, hl2 with
    | [a, b], _ => exact ⟨a, b, rfl⟩
  have h0 := hf 0 f0 rfl
  have h1 := hf 1 f1 rfl
  have hcc : (Value.agg cs).cells.toList = [v0, v1] := hcs
  rw [hcc, o0, c0, List.getElem?_eq_getElem (by omega)] at h0
  rw [hcc, o1, c1, List.getElem?_eq_getElem (by omega)] at h1
  obtain ⟨a, wa, ra⟩ := fracs_tell u0 F h0
  obtain ⟨b, wb, rb⟩ := fracs_tell u1 F h1
  refine ⟨a, b, wa, wb, [v0, v1], ⟨v0, [v1], [], [], rfl, rfl, ⟨ra, rfl⟩, v1, [], [], [], rfl, rfl, ⟨rb, rfl⟩, rfl, rfl⟩, ?_, fun h => by cases h⟩
  show Value.agg cs = Value.agg [v0, v1].toArray
  rw [← hcs]
theorem pair_tell {t e : TypeId} (ht : P.underlying t = some (.array 2 e)) (he : P.underlying e = some (.int .i64)) (ce : P.cellsOf e = 1) (ct : P.cellsOf t = 2) {r : Reach} {b0 : Nat} {v : Value} {d : DataW H} {ps : List MemPlace}
    (hv : Value.okWide P w r b0 t v) (h : DataW.Trod enc P w base spare held t v d ps) : ∃ q j : Int, Tells (hpOf w) w (AR q j) v [] := by
  simp only [Value.okWide, ht] at hv
  obtain ⟨cs, rfl, hs, _⟩ := hv
  obtain ⟨fuel, h⟩ := h
  obtain ⟨xs, n, _, _, hl, hx, hf⟩ := DataW.trod_array ht h
  have hl2 : cs.toList.length = 2 := by
    have : (Value.agg cs).cells.toList.length = P.cellsOf t := hl
    rw [ct] at this; exact this
  obtain ⟨v0, v1, hcs⟩ : ∃ v0 v1, cs.toList = [v0, v1] := by
    match hc : cs.toList, hl2 with
    | [a, b], _ => exact ⟨a, b, rfl⟩
  have hcc : (Value.agg cs).cells.toList = [v0, v1] := hcs
  have h0 := hf 0 (by omega)
  have h1 := hf 1 (by omega)
  rw [hcc, ce, List.getElem?_eq_getElem (by omega)] at h0
  rw [hcc, ce, List.getElem?_eq_getElem (by omega)] at h1
  obtain ⟨q, hq, _⟩ := DataW.trod_int he h0
  obtain ⟨j, hj, _⟩ := DataW.trod_int he h1
  have hq : v0 = .int .i64 q := by simpa using hq
  have hj : v1 = .int .i64 j := by simpa using hj
  refine ⟨q, j, [v0, v1], ⟨v0, [v1], [], [], rfl, rfl, ⟨⟨hq, rfl⟩, rfl⟩, v1, [], [], [], rfl, rfl, ⟨⟨hj, rfl⟩, rfl⟩, rfl, rfl⟩, ?_, fun h => by cases h⟩
  show Value.agg cs = Value.agg [v0, v1].toArray
  rw [← hcs]
end
/-- a world behind a call that only adds blocks -/
theorem below_of_fr {w w' : World} (h : Fr w w' fun b => b ∈ ([] : List Nat) ∨ ∃ l, (hpOf w).g b = some l) : RowKit.Below w.heap.size w w' :=
  ⟨h.os, h.tape, h.output, h.size, fun k hk => h.block k hk (fun h => h.elim (fun hb => by cases hb) (fun ⟨l, hl⟩ => by cases hl))⟩
end Go.X
namespace Go.X
open Go Go.Proofs
theorem laidOutP : laidOutB PP = true := by kernel_rfl
theorem frac34 : FracTy PP 34 := ⟨⟨_, _, _, 146, Tryz.underlying34, rfl, rfl, rfl, Tryz.underlying4, Tryz.underlying32, Tryz.underlying32, Tryz.underlying146, by kernel_rfl, by kernel_rfl, by kernel_rfl, by kernel_rfl⟩, by kernel_rfl⟩
theorem grad66 : GradTy PP 66 := ⟨⟨_, _, 34, Tryz.underlying66, rfl, rfl, Tryz.underlying26, Tryz.underlying26, frac34, by kernel_rfl, by kernel_rfl⟩, by kernel_rfl⟩
theorem calls_of {f : FuncId} {fn : Func} {args : Array Value} {w : World} {R : Value → World → Prop} (hf : PP.funcs[f]? = some fn) (hb : fn.body.isSome = true) (_hn : args.size = fn.params.size) (h : Answers PP f args w R) :
    Calls PP f args w fun e w' => ∃ v, e = .returned v ∧ R v w' := by
  rcases h with ⟨v, w', h1, _⟩ | ⟨_, h2⟩
  · obtain ⟨b, hb⟩ := Option.isSome_iff_exists.1 hb
    simp only [callFunc] at h1
    simp [hf, hb] at h1
    split at h1 <;> cases h1
  · refine h2.mono fun e w' he => ?_
    cases e with
    | returned v => exact ⟨v, rfl, he⟩
    | panicked c => exact he.elim
    | outgrown => exact he.elim
end Go.X
namespace Go.Proofs.YthmecihkgdaffaaGreatDoor
open Go.ChangeShapes Go.WideShapes Go.ChangeAt Go.RowKit Go.X
theorem own : ownKnob Tryz.prog.godebug = none := by kernel_rfl
set_option maxRecDepth 100000 in
theorem contract (hw : Den PP 10 [] [] (bl true)) (H : Type) (enc : TypeId × Value → H) (W : World) (base : Nat) (args : Array Value) (ds gs : List (DataW H)) (before : List MemPlace)
    (hval : ∀ (j : Nat) t v, Tryz.f5.params[j]? = some t → args[j]? = some v → Value.okWide Tryz.prog W .any base t v)
    (hW : DataW.Whole enc Tryz.prog Tryz.f5.params.toList Rows.backSumsSpec.vars false W args.toList ds gs before) :
    Calls Tryz.prog 5 args W fun e W' => ∃ v, e = .returned v ∧ Rows.backSumsSpec.post enc Tryz.prog Tryz.f5 false true false false W args v W' := by
  have hW' := hW
  obtain ⟨p, q, hA0, hV, rfl, hfz, hnd⟩ := hW
  have hA : DataW.TrodAll enc Tryz.prog W 0 (fun _ => true) true Tryz.f5.params.toList args.toList ds p := hA0
  rw [Tryz.params5] at hA hval
  obtain ⟨v0, vs0, d0, ds0, p0, q0, hargs, rfl, rfl, h0, r0⟩ := trodAll_cons hA
  obtain ⟨v1, vs1, d1, ds1, p1, q1, rfl, rfl, rfl, h1, r1⟩ := trodAll_cons r0
  obtain ⟨v2, vs2, d2, ds2, p2, q2, rfl, rfl, rfl, h2, r2⟩ := trodAll_cons r1
  obtain ⟨rfl, rfl, rfl⟩ := trodAll_nil r2
  obtain rfl : args = #[v0, v1, v2] := by cases args; simp_all
  obtain ⟨rfl, rfl⟩ := trodVars_none hV
  have k0 : Value.okWide PP W .any base 66 v0 := hval 0 66 v0 rfl rfl
  have k1 : Value.okWide PP W .any base 66 v1 := hval 1 66 v1 rfl rfl
  have k2 : Value.okWide PP W .any base 82 v2 := hval 2 82 v2 rfl rfl
  obtain ⟨a, b, wa, wb, T0⟩ := grad_tell grad66 k0 h0
  obtain ⟨d, e, wd, we, T1⟩ := grad_tell grad66 k1 h1
  obtain ⟨q, j, T2⟩ := pair_tell Tryz.underlying82 (by kernel_rfl) (by kernel_rfl) (by kernel_rfl) k2 h2
  have hall : Alls (hpOf W) W [GS a b, GS d e, AR q j] [v0, v1, v2] [] :=
    ⟨v0, [v1, v2], [], [], rfl, rfl, T0, v1, [v2], [], [], rfl, rfl, T1, v2, [], [], [], rfl, rfl, T2, rfl, rfl⟩
  have hd := back_sums hw a b d e wa wb wd we q j (hpOf W) W [v0, v1, v2] [] (hpOf_holds W) hall List.nodup_nil (fun b hb => by cases hb)
  have hc := calls_of (fn := Tryz.f5) Tryz.func5 (by kernel_rfl) (by rw [Tryz.params5]; rfl) hd
  refine hc.mono fun e W' ⟨v, he, k, bo, br, R⟩ => ⟨v, he, ?_⟩
  have hb := below_of_fr R.fr
  have hv : v = .bool true := by
    have := R.res
    obtain ⟨vs, ⟨u, vs', b1, b2, hvs, _, hu, hvs', _⟩, hm, _⟩ := this
    subst hvs'; subst hvs
    obtain ⟨⟨rfl, _⟩, _⟩ := hu
    exact hm
  subst hv
  have hlt : ∀ x ∈ p0 ++ (p1 ++ (p2 ++ [])), x.block < W.heap.size := fun x hx => hW'.lt x (by simpa using hx)
  have hsame : ∀ x ∈ p0 ++ (p1 ++ (p2 ++ [])), W.sameAt W' x := fun x hx => hb.same (hlt x hx)
  have hsp : ∀ x ∈ p0 ++ (p1 ++ (p2 ++ [])), (fun b => decide (b < W.heap.size)) x.block = true := fun x hx => by simpa using hlt x hx
  have s0 : DataW.Trod enc PP W' 0 (fun b => decide (b < W.heap.size)) true 66 v0 d0 p0 := WideElems.Trod_stays laidOutP (by kernel_rfl) (of_decide_eq_true (by kernel_rfl)) h0 (fun x hx => hsame x (by simp [hx])) (fun x hx => hsp x (by simp [hx]))
  have s1 : DataW.Trod enc PP W' 0 (fun b => decide (b < W.heap.size)) true 66 v1 d1 p1 := WideElems.Trod_stays laidOutP (by kernel_rfl) (of_decide_eq_true (by kernel_rfl)) h1 (fun x hx => hsame x (by simp [hx])) (fun x hx => hsp x (by simp [hx]))
  have s2 : DataW.Trod enc PP W' 0 (fun b => decide (b < W.heap.size)) true 82 v2 d2 p2 := WideElems.Trod_stays laidOutP (by kernel_rfl) (of_decide_eq_true (by kernel_rfl)) h2 (fun x hx => hsame x (by simp [hx])) (fun x hx => hsp x (by simp [hx]))
  exact ⟨_, _, _, [], p0 ++ (p1 ++ (p2 ++ [])), [], hW', trodAll_cons_mk (shut_bool Tryz.underlying4 _) trodAll_mk0, trodAll_cons_mk s0 (trodAll_cons_mk s1 (trodAll_cons_mk s2 trodAll_mk0)), rfl, hb.frame _, fun h => by cases h⟩
end Go.Proofs.YthmecihkgdaffaaGreatDoor
namespace Go.Proofs.YthmecihkgdaffaaGreatDoor
open Go
theorem named : Tryz.prog.funcNamed "retrospect/retrospectlaw35.BackSums" = some 5 := by kernel_rfl
theorem inst : Func.isInstance Tryz.prog Tryz.f5 Rows.backSumsRow.origin Rows.backSumsRow.targs := of_decide_eq_true (by kernel_rfl)
theorem wrap : Func.isWrapper Tryz.prog Tryz.f5 Rows.backSumsRow.wrapper Rows.backSumsRow.mainSum := by unfold Func.isWrapper; first | (rw [if_pos (by decide +kernel)]; kernel_rfl) | (rw [if_neg (by decide +kernel)]; exact ⟨rfl, rfl⟩)
theorem joined : joinedFacts Tryz.prog 5 Tryz.f5 (OpenSpec.ofChange Rows.backSumsSpec).bare Rows.backSumsRow = true := by kernel_rfl
end Go.Proofs.YthmecihkgdaffaaGreatDoor
