/- Part 31 of the proof of BackSums: Closed calls: functions without a body; gauges. Closed calls: strings.Builder. Closed calls: the table of known contracts. No conditions but those that each theorem names. -/
import Derived.Test.YthmecihkgdaffaaGreatDoorP30
import Derived.Test.YthmecihkgdaffaaGreatDoorP24
import Derived.Lib.Walk
import Derived.Lib.Bytealg
import Derived.Laws.Tables
import Derived.OwnWalk
import Derived.Lib.Builder
import Derived.Lib.UnsafeStr
import Derived.Lib.AppendStr
import Derived.Shelf.RegionOpenPlain
import Derived.Test.YthmecihkgdaffaaGreatDoorP28
namespace Go.X
open Go Go.Proofs
def strS (s : ByteArray) : S := oneD (.v (.string s))
def idxS (s : ByteArray) (c : Int) : Int := Lib.indexByte s.data.toList c.toNat.toUInt8
theorem plain_nil {h : Hp} {w : World} : ∀ {args : List S} {vs : List Value} {bs : List Nat}, args.all plainS = true → Alls h w args vs bs → bs = []
  | [], _, _, _, h2 => h2.2
  | x :: xs, _, _, hp, ⟨v1, vs', b1, b2, _, hb, t1, t2⟩ => by
    simp only [List.all_cons, Bool.and_eq_true] at hp
    rw [hb, plain_nil hp.2 t2, List.append_nil]
    cases x with
    | one ag cs => obtain ⟨us, o, _⟩ := t1; exact o.plainBs hp.1
    | _ => simp [plainS] at hp
theorem ext_den {f : FuncId} {fn : Func} {e : Array Value → Sem Value} {args : List S} {v : Value} (hf : PP.funcs[f]? = some fn) (hname : (fn.name == "runtime.NumGoroutine") = false) (hb : fn.body.isNone = true) (hn : Extern.findNext fn = none) (he : Extern.find fn = some e)
    (hp : args.all plainS = true) (hv : v.oneCell' = true) (h : ∀ (hp : Hp) (w : World) (vs : List Value), Alls hp w args vs [] → (e vs.toArray).run PP w = .ok v w) : Den PP f args args (oneD (.v v)) := by
  intro hh w vs bs h1 h2 h3 h4
  have hbs := plain_nil hp h2
  subst hbs
  left
  refine ⟨v, w, ?_, hh, [], [], Hp.le.refl hh, fun _ _ _ _ => rfl, fun _ _ => rfl, h1, ⟨rfl, rfl, rfl, Nat.le_refl _, fun _ _ _ => rfl⟩, h2, oneD_tells hv, List.nodup_nil, fun b hb => by cases hb⟩
  rw [run_callFunc_extern hf hname hb hn he, h hh w vs h2]; rfl
theorem str_arg {h : Hp} {w : World} {s : ByteArray} {v : Value} {b : List Nat} (ht : Tells h w (strS s) v b) : v = .string s := (own_one ht).1.1
theorem num_arg {h : Hp} {w : World} {k : IntKind} {n : Int} {v : Value} {b : List Nat} (ht : Tells h w (num k n) v b) : v = .int k n := (own_one ht).1.1
theorem idx_den (s : ByteArray) (c : Int) : Den PP 280 [strS s, num .u8 c] [strS s, num .u8 c] (num .i64 (idxS s c)) := by
  refine ext_den (fn := Tryz.f280) (e := Extern.BytealgIndexByte.indexByte) (by kernel_rfl) (by kernel_rfl) (by kernel_rfl) (by kernel_rfl) (by kernel_rfl) rfl rfl fun h w vs hv => ?_
  obtain ⟨v1, vs1, b1, b2, rfl, hb, t1, v2, vs2, b3, b4, rfl, hb2, t2, rfl, rfl⟩ := hv
  rw [str_arg t1, num_arg t2]
  exact Lib.run_indexByteString s c w
theorem cnt_den (s : ByteArray) (c : Int) : Den PP 307 [strS s, num .u8 c] [strS s, num .u8 c] (num .i64 (Lib.countByte s.data.toList c.toNat.toUInt8 : Nat)) := by
  refine ext_den (fn := Tryz.f307) (e := Extern.BytealgCount.count) (by kernel_rfl) (by kernel_rfl) (by kernel_rfl) (by kernel_rfl) (by kernel_rfl) rfl rfl fun h w vs hv => ?_
  obtain ⟨v1, vs1, b1, b2, rfl, hb, t1, v2, vs2, b3, b4, rfl, hb2, t2, rfl, rfl⟩ := hv
  rw [str_arg t1, num_arg t2]
  exact Lib.run_countString s c w

set_option maxHeartbeats 1000000 in
set_option maxRecDepth 100000 in
theorem note_calls (b : Nat) (w : World) (x y l n : Int) (T : TypeId) (_hh : w.heap[b]? = some (.cells #[.int .i64 x, .int .i64 y, .int .i64 l] T (0, 0)))
    (hf : ∀ i, w.frozen? ⟨b, i, none⟩ = false) (h0 : w.cell? ⟨b, 0, none⟩ = some (.int .i64 x)) (h1 : w.cell? ⟨b, 1, none⟩ = some (.int .i64 y)) :
    Calls Tryz.prog 236 #[.pointer (some ⟨b, 0, none⟩), .int .i64 n] w fun e w' => e = .returned (.tuple #[]) ∧ ∃ x' y', w' = (w.setCell ⟨b, 0, none⟩ (.int .i64 x')).setCell ⟨b, 1, none⟩ (.int .i64 y') := by
  go_enter Tryz.func236, Tryz.ntmps236
  go_wp2
  all_goals try (rename_i hx; rw [hf] at hx; cases hx; done)
  refine bodyPost_end (results_none (by kernel_rfl) _ _ _) rfl ?_
  exact ⟨rfl, _, _, rfl⟩
theorem setCell_at {w : World} {b i : Nat} {cs : Array Value} {T : TypeId} (h : w.heap[b]? = some (.cells cs T (0, 0))) (v : Value) : (w.setCell ⟨b, i, none⟩ v).heap[b]? = some (.cells (cs.setIfInBounds i v) T (0, 0)) := by
  simp [World.setCell, Array.getElem?_modify, h]
/-- a gauge's counters go on -/
theorem note_den (l n : Int) : Den PP 236 [oneD (.ga l 0), num .i64 n] [oneD (.ga l 0), num .i64 n] (.tup []) := by
  intro h w vs bs hh hal hn hl
  obtain ⟨v1, vs1, b1, b2, rfl, rfl, t1, v2, vs2, b3, b4, rfl, rfl, t2, rfl, rfl⟩ := hal
  have hb1 := (own_one t1).2
  have hb3 := (own_one t2).2
  subst hb1; subst hb3
  obtain ⟨b, rfl, hg⟩ := (own_one t1).1
  have e2 := num_arg t2
  subst e2
  obtain ⟨x, y, T, hb⟩ := hh.g b l hg
  have hfz : ∀ i, w.frozen? ⟨b, i, none⟩ = false := fun i => by simp [World.frozen?, hb]
  have hc : ∀ i v, (#[Value.int .i64 x, .int .i64 y, .int .i64 l] : Array Value)[i]? = some v → w.cell? ⟨b, i, none⟩ = some v := fun i v hv => by simp [World.cell?, hb, hv]
  right
  have hf : PP.funcs[236]? = some Tryz.f236 := by kernel_rfl
  have hbd : Tryz.f236.body = some (codeOf Tryz.f236) := by kernel_rfl
  have hnm : (Tryz.f236.name == "runtime.NumGoroutine") = false := by kernel_rfl
  constructor
  · have hn' : ¬Tryz.f236.name = "runtime.NumGoroutine" := by intro h; rw [h] at hnm; simp at hnm
    simp [callFunc, hf, hbd, hn']
  refine (note_calls b w x y l n T hb hfz (hc 0 _ rfl) (hc 1 _ rfl)).mono ?_
  rintro e w' ⟨rfl, x', y', rfl⟩
  have hw : ((w.setCell ⟨b, 0, none⟩ (.int .i64 x')).setCell ⟨b, 1, none⟩ (.int .i64 y')).heap[b]? = some (.cells #[.int .i64 x', .int .i64 y', .int .i64 l] T (0, 0)) := setCell_at (setCell_at hb _) _
  have ho : ∀ c, c ≠ b → ((w.setCell ⟨b, 0, none⟩ (.int .i64 x')).setCell ⟨b, 1, none⟩ (.int .i64 y')).heap[c]? = w.heap[c]? := fun c hc => by simp [World.setCell, Array.getElem?_modify, Ne.symm hc]
  have hsz : ((w.setCell ⟨b, 0, none⟩ (.int .i64 x')).setCell ⟨b, 1, none⟩ (.int .i64 y')).heap.size = w.heap.size := by simp [World.setCell]
  revert hw ho hsz
  generalize hw' : (w.setCell ⟨b, 0, none⟩ (.int .i64 x')).setCell ⟨b, 1, none⟩ (.int .i64 y') = w'
  intro hw ho hsz
  have hos : w'.os = w.os ∧ w'.tape = w.tape ∧ w'.output = w.output := by rw [← hw']; exact ⟨rfl, rfl, rfl⟩
  refine ⟨h, [], [], Hp.le.refl h, fun _ _ _ _ => rfl, fun _ _ => rfl, ⟨fun c i v hv => ?_, fun c l' hl' => ?_, hh.ap⟩, ⟨hos.1, hos.2.1, hos.2.2, Nat.le_of_eq hsz.symm, fun c _ hc => ho c fun e => hc (.inr ⟨l, by rw [e]; exact hg⟩)⟩, ?_, ⟨[], rfl, rfl, rfl⟩, List.nodup_nil, fun b hb => by cases hb⟩
  · have hcb : c ≠ b := fun e => by rw [e, hh.ap b l i hg] at hv; cases hv
    rw [World.cell?_of_block (w := w) (a := ⟨c, i, none⟩) (ho c hcb)]
    exact hh.c _ _ _ hv
  · by_cases hcb : c = b
    · subst hcb
      rw [hg] at hl'
      injection hl' with hl'
      subst hl'
      exact ⟨x', y', T, hw⟩
    · rw [ho c hcb]; exact hh.g c l' hl'
  · exact ⟨_, _, [], [], rfl, rfl, one_own ⟨⟨b, rfl, hg⟩, rfl⟩, _, _, [], [], rfl, rfl, oneD_tells rfl, rfl, rfl⟩
/-- a new gauge -/
theorem Den.gauge {P : Program} {f : FuncId} {args os : List S} {t : TypeId} {x y l : Int} (hp : args.all plainS = true) (hd : Den P f args os (.box t [.d (.v (.int .i64 x)), .d (.v (.int .i64 y)), .d (.v (.int .i64 l))])) : Den P f args os (oneD (.ga l 0)) := by
  intro h w vs bs h1 h2 h3 h4
  have hbs := plain_nil hp h2
  subst hbs
  refine (hd h w vs [] h1 h2 h3 h4).mono fun v w' ⟨k, bo, br, R⟩ => ?_
  obtain ⟨b, us, bs', hv, hh, ho, rfl, hf⟩ := R.res
  obtain ⟨u1, us1, c1, c2, rfl, rfl, ⟨⟨rfl, _⟩, rfl⟩, u2, us2, c3, c4, rfl, rfl, ⟨⟨rfl, _⟩, rfl⟩, u3, us3, c5, c6, rfl, rfl, ⟨⟨rfl, _⟩, rfl⟩, rfl, rfl⟩ := ho
  have hm := R.mine b (by simp)
  have hbo : ∀ c ∈ bo, c ≠ b := fun c hc e => (List.nodup_append.1 R.nodup).2.2 c hc b (by simp) e
  have hge : w.heap.size ≤ b := hm.1.resolve_right (by simp)
  refine ⟨{ k with g := fun c => if c = b then some l else k.g c }, bo, [], R.le.trans ⟨fun _ _ _ h => h, fun c l' hc => ?_⟩, R.newc, fun c hc => ?_, ⟨R.holds.c, fun c l' hc => ?_, fun c l' i hc => ?_⟩, R.fr, Alls.keep (h := k) (k := { k with g := fun c => if c = b then some l else k.g c }) ⟨fun _ _ _ h => h, fun c l' hc => ?_⟩ R.outs ⟨fun _ _ => rfl, fun _ _ _ => rfl, fun c hc => ?_⟩, one_own ⟨⟨b, hv, ?_⟩, rfl⟩, by rw [List.append_nil]; exact (List.nodup_append.1 R.nodup).1, fun c hc => R.mine c (by rw [List.append_nil] at hc; simp [hc])⟩
  · show (if c = b then some l else k.g c) = some l'
    by_cases e : c = b
    · subst e; rw [hf.g] at hc; cases hc
    · rw [if_neg e]; exact hc
  · show (if c = b then some l else k.g c) = h.g c
    rw [if_neg (by omega)]; exact R.newg c hc
  · have hc : (if c = b then some l else k.g c) = some l' := hc
    by_cases e : c = b
    · subst e
      rw [if_pos rfl] at hc
      injection hc with hc
      subst hc
      exact ⟨x, y, t, hh⟩
    · rw [if_neg e] at hc; exact R.holds.g c l' hc
  · have hc : (if c = b then some l else k.g c) = some l' := hc
    by_cases e : c = b
    · subst e; exact hf.c i
    · rw [if_neg e] at hc; exact R.holds.ap c l' i hc
  · show (if c = b then some l else k.g c) = some l'
    by_cases e : c = b
    · subst e; rw [hf.g] at hc; cases hc
    · rw [if_neg e]; exact hc
  · show (if c = b then some l else k.g c) = k.g c
    rw [if_neg (hbo c hc)]
  · show (if b = b then some l else k.g b) = some l
    rw [if_pos rfl]
end Go.X
namespace Go.X
open Go Go.Proofs
set_option maxHeartbeats 2000000 in
set_option maxRecDepth 100000 in
theorem check_fresh (b : Nat) (w : World) (h0 : w.cell? ⟨b, 0, none⟩ = some (.pointer none)) (hsh : w.shape? b = some (229, 2)) (hfz : w.frozen? ⟨b, 0, none⟩ = false) :
    Calls Tryz.prog 186 #[.pointer (some ⟨b, 0, none⟩)] w fun e w' => e = .returned (.tuple #[]) ∧ w' = w.setCell ⟨b, 0, none⟩ (.pointer (some ⟨b, 0, none⟩)) := by
  have t1 : Tryz.prog.underlying 226 = some (.pointer 229) := by kernel_rfl
  have t2 : Tryz.prog.underlying 329 = some .unsafePointer := by kernel_rfl
  obtain ⟨j, hj, hjs⟩ := Option.map_eq_some_iff.1 (show (Tryz.prog.info? 229).map (fun i => i.size) = some 2 by kernel_rfl)
  go_enter Tryz.func186, Tryz.ntmps186
  go_wp2
  rw [Lib.run_to_unsafe w ⟨b, 0, none⟩ t1 t2 hj (by rw [hjs]; decide) hsh (Nat.zero_lt_succ 1)]
  simp only [Result.andThen]
  rw [Oper.upon_value]
  go_wp2
  rw [run_callFunc_extern Tryz.func228 (by kernel_rfl) (by kernel_rfl) (by kernel_rfl) (e := Extern.AbiNoEscape.same) (by kernel_rfl)]
  rw [Lib.run_noEscape]
  simp only [Result.andThen]
  rw [Oper.upon_value]
  go_wp2
  rw [Lib.run_from_unsafe w ⟨b, 0, none⟩ t2 t1 hj hsh (by kernel_rfl)]
  simp only [Result.andThen]
  rw [Oper.upon_value]
  go_wp2
  refine bodyPost_end (results_none (by kernel_rfl) _ _ _) rfl ?_
  exact ⟨rfl, rfl⟩
set_option maxHeartbeats 2000000 in
set_option maxRecDepth 100000 in
theorem check_used (b : Nat) (w : World) (h0 : w.cell? ⟨b, 0, none⟩ = some (.pointer (some ⟨b, 0, none⟩))) :
    Calls Tryz.prog 186 #[.pointer (some ⟨b, 0, none⟩)] w fun e w' => e = .returned (.tuple #[]) ∧ w' = w := by
  have t1 : Tryz.prog.underlying 226 = some (.pointer 229) := by kernel_rfl
  obtain ⟨j, hj, hjs⟩ := Option.map_eq_some_iff.1 (show (Tryz.prog.info? 229).map (fun i => i.size) = some 2 by kernel_rfl)
  go_enter Tryz.func186, Tryz.ntmps186
  go_wp2
  rw [Lib.run_neq_ptr_same w ⟨b, 0, none⟩ t1 hj]
  simp only [Result.andThen]
  rw [Oper.upon_value]
  go_wp2
  refine bodyPost_end (results_none (by kernel_rfl) _ _ _) rfl ?_
  exact ⟨rfl, rfl⟩
/-- a builder's block behind copyCheck -/
theorem check_calls (b : Nat) (w : World) (p u : Value) (hp : p = .pointer none ∨ p = .pointer (some ⟨b, 0, none⟩)) (hb : w.heap[b]? = some (.cells #[p, u] 229 (0, 0))) :
    Calls Tryz.prog 186 #[.pointer (some ⟨b, 0, none⟩)] w fun e w' => e = .returned (.tuple #[]) ∧ w'.heap[b]? = some (.cells #[.pointer (some ⟨b, 0, none⟩), u] 229 (0, 0)) ∧ w.grownBy w' (some b) ∧ w'.heap.size = w.heap.size := by
  have c0 : w.cell? ⟨b, 0, none⟩ = some p := by rw [Lib.cell_of_heap hb]; rfl
  rcases hp with rfl | rfl
  · refine (check_fresh b w c0 (by simp [World.shape?, hb]) (by simp [World.frozen?, hb])).mono ?_
    rintro e w' ⟨rfl, rfl⟩
    refine ⟨rfl, by simp [World.setCell, Array.getElem?_modify, hb], ⟨rfl, rfl, rfl, by simp [World.setCell], fun k _ hk => ?_⟩, by simp [World.setCell]⟩
    have : b ≠ k := fun e => hk (by rw [e])
    simp [World.setCell, Array.getElem?_modify, this]
  · refine (check_used b w c0).mono ?_
    rintro e w' ⟨rfl, rfl⟩
    exact ⟨rfl, hb, ⟨rfl, rfl, rfl, Nat.le_refl _, fun _ _ _ => rfl⟩, rfl⟩
/-- where the row lies that a string was appended to -/
theorem append_place {P : Program} (w : World) (t u ty e : TypeId) (i : TypeInfo) (ht : P.underlying t = some (.slice e)) (hu : P.underlying u = some .string) (hi : P.info? e = some i) (hz : i.zero = some (.int .u8 0))
    (hsize : i.size = 1) (hby : i.bytes = 1) (v : Value) (n : Nat) (xs : List Value) (hown : w.ownsRow 0 e 1 v n xs) (s : ByteArray) (hn : n + s.size ≤ 1000000) {v' : Value} {w' : World}
    (hr : (Builtin.append_ #[t, u] ty #[v, .string s]).run P w = .ok v' w') : v'.ownBlock = v.ownBlock ∨ v'.ownBlock = some w.heap.size := by
  have hxl : xs.length = n := by simpa using hown.1
  rcases hown.2 with ⟨rfl, rfl⟩ | ⟨g, cap, cur, rfl, hbg, hg, hnc, hcm, hcs, htake⟩
  · by_cases hm : s.size = 0
    · have hf := Lib.run_firstCells_string (P := P) w 1 s
      rw [hm] at hf
      simp [Builtin.append_, run_underlying ht, run_underlying hu, sizeOf, typeInfo, hi, hsize, Builtin.lenOf, hm, hf] at hr
      obtain ⟨rfl, _⟩ := hr
      exact .inl rfl
    · rw [run_append_nil_string (P := P) w t u ty e i (.int .u8 0) ht hu hi hz s (by omega) (by omega) (by rw [hby]; omega)] at hr
      injection hr with h1
      subst h1
      exact .inr rfl
  · by_cases hroom : n + s.size ≤ cap
    · have hcs' : cur.size = cap := by simpa using hcs
      rw [Lib.run_append_room_string (P := P) w t u ty e i ht hu hi hsize g n cap cur hg s hroom (by omega)] at hr
      injection hr with h1
      subst h1
      exact .inl rfl
    · have holds : ∀ j u, xs[j]? = some u → w.cell? ((⟨g, 0, none⟩ : Addr).add j) = some u := hown.cells (g := g) rfl
      rw [Lib.run_append_grow_string (P := P) w t u ty e i (.int .u8 0) ht hu hi hz ⟨g, 0, none⟩ n cap xs (by rw [hsize]; simpa using hxl) holds s (by omega) (by omega) (by rw [hby]; exact growslice_fits (by omega) (by omega))] at hr
      injection hr with h1
      subst h1
      exact .inr rfl
theorem wpList_app {P : Program} (w : World) {ops : Array Oper} {rest : List Oper} {o : Oper} {a : Act} {Q : Exit → Act → World → Prop} (hgd : o.guard = none) (sl x : Operand) (t u : TypeId)
    (ho : o.op = .call { callee := .builtin .append, args := #[sl, x], argTypes := #[t, u] })
    (e : TypeId) (i : TypeInfo) (ht : P.underlying t = some (.slice e)) (hu : P.underlying u = some .string) (hi : P.info? e = some i) (hz : i.zero = some (.int .u8 0))
    (hsize : i.size = 1) (hby : i.bytes = 1)
    (v : Value) (n : Nat) (xs : List Value) (hs : a.eval sl = v) (hown : w.ownsRow 0 e 1 v n xs) (s : ByteArray) (hx : a.eval x = .string s) (hn : n + s.size ≤ 1000000)
    (h : ∀ v' w', w'.ownsRow 0 e 1 v' (n + s.size) (xs ++ Lib.strCells s) → w.grownBy w' v.ownBlock → (v'.ownBlock = v.ownBlock ∨ v'.ownBlock = some w.heap.size) → wpList P ops Q rest (a.put o.dst v') w') : wpList P ops Q (o :: rest) a w := by
  refine wpList_plain hgd fun K hK => ?_
  obtain ⟨v', w', hr, h2, h3, h4⟩ := Lib.run_append_own_string (P := P) w 0 t u o.type e i ht hu hi hz hsize hby v n xs hown s (by unfold maxLen; omega) (by omega) (Nat.zero_le _)
  have h5 := append_place w t u o.type e i ht hu hi hz hsize hby v n xs hown s hn hr
  unfold Oper.wp execOp
  simp only [ho, resolve, invoke, builtin, Sem.run_bind, Sem.run_pure, Result.andThen_ok, List.map_toArray, List.map_cons, List.map_nil, hs, hx, hr]
  exact hK _ _ (h v' w' h2 h3 h5)
set_option maxHeartbeats 2000000 in
set_option maxRecDepth 100000 in
theorem write_calls (b : Nat) (w : World) (p u : Value) (n : Nat) (xs : List Value) (s : ByteArray) (hp : p = .pointer none ∨ p = .pointer (some ⟨b, 0, none⟩)) (hb : w.heap[b]? = some (.cells #[p, u] 229 (0, 0)))
    (hown : w.ownsRow 0 5 1 u n xs) (hne : u.ownBlock ≠ some b) (hn : n + s.size ≤ 1000000) :
    Calls Tryz.prog 138 #[.pointer (some ⟨b, 0, none⟩), .string s] w fun e w' => e = .returned (.tuple #[.int .i64 s.size, .nilIface]) ∧
      ∃ u', w'.heap[b]? = some (.cells #[.pointer (some ⟨b, 0, none⟩), u'] 229 (0, 0)) ∧ w'.ownsRow 0 5 1 u' (n + s.size) (xs ++ Lib.strCells s) ∧
      w'.os = w.os ∧ w'.tape = w.tape ∧ w'.output = w.output ∧ w.heap.size ≤ w'.heap.size ∧ (∀ k, k < w.heap.size → k ≠ b → u.ownBlock ≠ some k → w'.heap[k]? = w.heap[k]?) ∧ (u'.ownBlock = u.ownBlock ∨ u'.ownBlock = some w.heap.size) := by
  obtain ⟨i0, hi, hi2⟩ := Option.map_eq_some_iff.1 (show (Tryz.prog.info? 5).map (fun i => (i.zero, i.size, i.bytes)) = some (some (.int .u8 0), 1, 1) by kernel_rfl)
  simp only [Prod.mk.injEq] at hi2
  obtain ⟨hz0, hz1, hz2⟩ := hi2
  have t227 : Tryz.prog.underlying 227 = some (.slice 5) := by kernel_rfl
  have t9 : Tryz.prog.underlying 9 = some .string := by kernel_rfl
  have hlt : b < w.heap.size := (Array.getElem?_eq_some_iff.1 hb).1
  go_enter Tryz.func138, Tryz.ntmps138
  go_wp2_with (go_at_call 186; refine (check_calls b w p u hp hb).mono ?_)
  rintro e w1 ⟨rfl, hb1, hg1, hs1⟩
  have hown1 : w1.ownsRow 0 5 1 u n xs := by
    refine ⟨hown.1, hown.2.imp id ?_⟩
    rintro ⟨g, cap, cur, rfl, h1, h2, h3⟩
    have hgb : g ≠ b := fun e => hne (by rw [e]; rfl)
    exact ⟨g, cap, cur, rfl, h1, by rw [hg1.block g (Array.getElem?_eq_some_iff.1 h2).1 (by simp [hgb])]; exact h2, h3⟩
  have c1 : w1.cell? ⟨b, 1, none⟩ = some u := by rw [Lib.cell_of_heap hb1]; rfl
  go_wp2_with (at_builtin; refine wpList_app _ rfl _ _ 227 9 rfl 5 i0 t227 t9 hi hz0 hz1 hz2 _ n xs rfl hown1 s rfl hn ?_)
  intro v' w2 hown2 hg2 hpl
  have hb2 : w2.heap[b]? = some (.cells #[.pointer (some ⟨b, 0, none⟩), u] 229 (0, 0)) := by
    rw [hg2.block b (by omega) (fun e => hne e.symm)]; exact hb1
  have d1 : w2.cell? ⟨b, 1, none⟩ = some u := by rw [Lib.cell_of_heap hb2]; rfl
  have f1 : w2.frozen? ⟨b, 1, none⟩ = false := by simp [World.frozen?, hb2]
  have hvb : v'.ownBlock ≠ some b := by
    rcases hpl with e | e
    · rw [e]; exact hne
    · rw [e]; intro e; injection e with e; omega
  obtain ⟨q, vl, vc, rfl⟩ : ∃ q vl vc, v' = .slice q vl vc := by
    rcases hown2.2 with ⟨h, _⟩ | ⟨g, cap, cur, h, _⟩ <;> exact ⟨_, _, _, h⟩
  go_wp2
  refine bodyPost_ret (results_tmp2 (t := 4) (u := 5) (by kernel_rfl) _ _ _) rfl ?_
  refine ⟨rfl, .slice q vl vc, ?_, ?_, hg2.os.trans hg1.os, hg2.tape.trans hg1.tape, hg2.output.trans hg1.output, ?_, ?_, ?_⟩
  · simp [World.setCell, Array.getElem?_modify, hb2]
  · refine ⟨hown2.1, hown2.2.imp id ?_⟩
    rintro ⟨g, cap, cur, h0, h1, h2, h3⟩
    have hgb : b ≠ g := fun e => hvb (by rw [h0, e]; rfl)
    exact ⟨g, cap, cur, h0, h1, by simp [World.setCell, Array.getElem?_modify, hgb]; exact h2, h3⟩
  · have := hg2.size
    simp [World.setCell]; omega
  · intro k hk hkb hku
    have hkb' : b ≠ k := fun e => hkb e.symm
    simp only [World.setCell, Array.getElem?_modify, hkb', if_false]
    rw [hg2.block k (by omega) (fun e => hku e.symm), hg1.block k hk (by simp [hkb])]
  · simpa only [hs1] using hpl
set_option maxHeartbeats 2000000 in
set_option maxRecDepth 100000 in
theorem string_calls (b g cap : Nat) (cur : Array Value) (w : World) (p : Value) (l : List UInt8) (h0 : l ≠ []) (hbk : w.heap[b]? = some (.cells #[p, .slice (some ⟨g, 0, none⟩) l.length cap] 229 (0, 0)))
    (hg : w.heap[g]? = some (.cells cur 5 (0, 0))) (hnc : l.length ≤ cap) (hcm : cap ≤ maxLen) (hcs : cur.size = cap) (ht : cur.toList.take l.length = Lib.byteCells l) :
    Calls Tryz.prog 139 #[.pointer (some ⟨b, 0, none⟩)] w fun e w' => e = .returned (.string ⟨l.toArray⟩) ∧ w' = w.drew.freeze ⟨g, 0, none⟩ l.length := by
  have hl0 : l.length ≠ 0 := by simpa using h0
  have c1 : w.drew.cell? ⟨b, 1, none⟩ = some (.slice (some ⟨g, 0, none⟩) l.length cap) := by
    have : w.drew.heap[b]? = some (.cells #[p, .slice (some ⟨g, 0, none⟩) l.length cap] 229 (0, 0)) := hbk
    rw [Lib.cell_of_heap this]; rfl
  have hSD : (Builtin.unsafeSliceData_ #[227] 283 #[.slice (some ⟨g, 0, none⟩) l.length cap]).run Tryz.prog w.drew = .ok (.pointer (some ⟨g, 0, none⟩)) w.drew :=
    Lib.run_unsafeSliceData_row _ _ _ _ _ _ (by omega)
  have hUS : (Builtin.unsafeString_ #[283, 3] 9 #[.pointer (some ⟨g, 0, none⟩), .int .i64 l.length]).run Tryz.prog w.drew = .ok (.string ⟨l.toArray⟩) (w.drew.freeze ⟨g, 0, none⟩ l.length) := by
    refine Lib.run_unsafeString_row w.drew 283 3 9 5 (by kernel_rfl) (by kernel_rfl) g cur.size (by have hg' : w.drew.heap[g]? = some (.cells cur 5 (0, 0)) := hg; simp [World.shape?, hg']) l h0 (by omega) (by unfold maxLen at hcm; omega) ?_
    intro j x hx
    have hj : j < l.length := (List.getElem?_eq_some_iff.1 hx).1
    have hg' : w.drew.heap[g]? = some (.cells cur 5 (0, 0)) := hg
    have e1 : (cur.toList.take l.length)[j]? = some (.int .u8 x.toNat) := by rw [ht]; simp [Lib.byteCells, hx]
    rw [List.getElem?_take_of_lt hj] at e1
    rw [Addr.add_lit]
    simpa [World.cell?, hg'] using e1
  have mixed : Tryz.prog.follows Departure.mixedOrders = true := by kernel_rfl
  go_enter Tryz.func139, Tryz.ntmps139
  go_wp2
  go_region_o
  all_goals (go_wp2; go_ret; exact ⟨rfl, rfl⟩)

theorem Free.new {h : Hp} {w : World} (hh : h.holds w) {c : Nat} (hc : w.heap.size ≤ c) : Free h c := by
  constructor
  · intro i
    cases e : h.c c i with
    | none => rfl
    | some v => have := hh.lt e; omega
  · cases e : h.g c with
    | none => rfl
    | some v => have := hh.ltg e; omega
/-- known cells stay where the blocks stay -/
theorem Hp.holds.stay {h : Hp} {w w' : World} (hh : h.holds w) (he : ∀ c, c < w.heap.size → ¬ Free h c → w'.heap[c]? = w.heap[c]?) : h.holds w' := by
  refine ⟨fun c i v hv => ?_, fun c l hl => ?_, hh.ap⟩
  · have hn : ¬ Free h c := fun hf => by rw [hf.c i] at hv; cases hv
    rw [World.cell?_of_block (w := w) (a := ⟨c, i, none⟩) (he c (hh.lt hv) hn)]
    exact hh.c _ _ _ hv
  · have hn : ¬ Free h c := fun hf => by rw [hf.g] at hl; cases hl
    rw [he c (hh.ltg hl) hn]
    exact hh.g c l hl
theorem den_calls {f : FuncId} {fn : Func} {args outs : List S} {res : S} (hf : PP.funcs[f]? = some fn) (hbd : fn.body.isSome = true) (hnm : (fn.name == "runtime.NumGoroutine") = false)
    (h : ∀ h w vs bs, h.holds w → Alls h w args vs bs → bs.Nodup → (∀ b ∈ bs, b < w.heap.size) → Calls PP f vs.toArray w fun e w' => ∃ v, e = .returned v ∧ ∃ k bo br, Ret h w vs bs outs res k bo br v w') : Den PP f args outs res := by
  intro hp w vs bs h1 h2 h3 h4
  right
  constructor
  · have hn' : ¬fn.name = "runtime.NumGoroutine" := by intro h; rw [h] at hnm; simp at hnm
    obtain ⟨c, hc⟩ := Option.isSome_iff_exists.1 hbd
    simp [callFunc, hf, hc, hn']
  · refine (h hp w vs bs h1 h2 h3 h4).mono ?_
    rintro e w' ⟨v, rfl, r⟩
    exact r
theorem strCells_sb (s : ByteArray) : Lib.strCells s = (sb s).map fun (x : Nat) => Value.int .u8 x := by
  simp [Lib.strCells, sb, List.map_map]
theorem write_den (l : List Nat) (s : ByteArray) (hn : l.length + s.size ≤ 1000000) : Den PP 138 [.bld 229 5 l, strS s] [.bld 229 5 (l ++ sb s), strS s] (.tup [oneC (.int .i64 s.size), oneC .nilIface]) := by
  refine den_calls (fn := Tryz.f138) (by kernel_rfl) (by kernel_rfl) (by kernel_rfl) fun h w vs bs hh hal hnd hlt => ?_
  obtain ⟨v1, vs1, b1, b2, rfl, rfl, t1, v2, vs2, b3, b4, rfl, rfl, t2, rfl, rfl⟩ := hal
  have hb3 := (own_one t2).2
  subst hb3
  have e2 := str_arg t2
  subst e2
  obtain ⟨b, p, u, bs', rfl, hb, hp, ⟨hown, rfl⟩, rfl, hf⟩ := t1
  have hne : u.ownBlock ≠ some b := fun e => by rw [e] at hnd; simp at hnd
  refine (write_calls b w p u l.length _ s hp hb hown hne hn).mono ?_
  rintro e w' ⟨rfl, u', hb', hown', ho1, ho2, ho3, hsz, hk, hpl⟩
  have hlb : b < w.heap.size := hlt b (by simp)
  have hub : ∀ c, u.ownBlock = some c → c < w.heap.size := fun c e => hlt c (by simp [e])
  have hkeep : ∀ c, c < w.heap.size → ¬ Free h c → w'.heap[c]? = w.heap[c]? := fun c hc hnf =>
    hk c hc (fun e => hnf (hf c (by simp [e]))) fun e => hnf (hf c (by simp [e]))
  have hu' : ∀ c, u'.ownBlock = some c → (w.heap.size ≤ c ∨ u.ownBlock = some c) ∧ c < w'.heap.size := by
    intro c hc
    constructor
    · rcases hpl with e | e
      · exact .inr (by rw [← e]; exact hc)
      · rw [e] at hc; injection hc with hc; exact .inl (by omega)
    · rcases hown'.2 with ⟨rfl, _⟩ | ⟨g, cap, cur, rfl, _, h2, _⟩
      · cases hc
      · injection hc with hc; subst hc; exact (Array.getElem?_eq_some_iff.1 h2).1
  have hfr' : ∀ c, u'.ownBlock = some c → Free h c := fun c hc => by
    rcases (hu' c hc).1 with e | e
    · exact Free.new hh e
    · exact hf c (by simp [e])
  refine ⟨_, rfl, h, b :: u'.ownBlock.toList, [], Hp.le.refl h, fun _ _ _ _ => rfl, fun _ _ => rfl, hh.stay hkeep, ⟨ho1, ho2, ho3, hsz, fun c hc he => hk c hc (fun e => he (.inl (by simp [e]))) fun e => he (.inl (by simp [e]))⟩, ?_, ?_, ?_, ?_⟩
  · refine ⟨_, _, _, [], rfl, (List.append_nil _).symm, ⟨b, _, u', _, rfl, hb', .inr rfl, ⟨?_, rfl⟩, rfl, ?_⟩, _, _, [], [], rfl, rfl, oneD_tells rfl, rfl, rfl⟩
    · rw [strCells_sb, ← List.map_append] at hown'
      have e : (l ++ sb s).length = l.length + s.size := by
        rw [List.length_append]; congr 1; simp [sb]
      rw [e]; exact hown'
    · intro c hc
      rcases List.mem_cons.1 hc with rfl | hc
      · exact hf c (by simp)
      · exact hfr' c (by simpa using hc)
  · exact ⟨_, rfl, _, _, [], [], rfl, rfl, .inr (oneD_tells rfl), _, _, [], [], rfl, rfl, .inr (oneD_tells rfl), rfl, rfl⟩
  · rw [List.append_nil]
    refine List.nodup_cons.2 ⟨fun hc => ?_, ?_⟩
    · have hc : u'.ownBlock = some b := by simpa using hc
      rcases (hu' b hc).1 with e | e
      · omega
      · exact hne e
    · cases u'.ownBlock <;> simp
  · intro c hc
    rw [List.append_nil] at hc
    rcases List.mem_cons.1 hc with rfl | hc
    · exact ⟨.inr (by simp), by omega⟩
    · have hc : u'.ownBlock = some c := by simpa using hc
      exact ⟨(hu' c hc).1.imp id fun e => by simp [e], (hu' c hc).2⟩
def bytesB : List Nat → Bool
  | [] => true
  | x :: l => Nat.blt x 256 && bytesB l
theorem bytesB_eq : ∀ {l : List Nat}, bytesB l = true → (l.map UInt8.ofNat).map UInt8.toNat = l
  | [], _ => rfl
  | x :: l, h => by
    simp only [bytesB, Bool.and_eq_true] at h
    have hx : x < 256 := Nat.le_of_ble_eq_true h.1
    simp only [List.map_cons, bytesB_eq h.2]
    congr 1
    simp [Nat.mod_eq_of_lt hx]
theorem string_den (l : List Nat) (h0 : l ≠ []) (hl : bytesB l = true) : Den PP 139 [.bld 229 5 l] [.no] (oneD (.v (.string (ofB l)))) := by
  refine den_calls (fn := Tryz.f139) (by kernel_rfl) (by kernel_rfl) (by kernel_rfl) fun h w vs bs hh hal hnd hlt => ?_
  obtain ⟨v1, vs1, b1, b2, rfl, rfl, ⟨b, p, u, bs', rfl, hb, hp, ⟨hown, rfl⟩, rfl, hf⟩, rfl, rfl⟩ := hal
  have hl0 : l.length ≠ 0 := by simpa using h0
  have e1 := bytesB_eq hl
  generalize hm : l.map UInt8.ofNat = m at e1
  have hml : m.length = l.length := by rw [← hm, List.length_map]
  obtain ⟨g, cap, cur, rfl, hbg, hg, hnc, hcm, hcs, htake⟩ : ∃ g cap cur, u = .slice (some ⟨g, 0, none⟩) l.length cap ∧ 0 ≤ g ∧ w.heap[g]? = some (.cells cur 5 (0, 0)) ∧ l.length ≤ cap ∧ cap ≤ maxLen ∧ cur.size = cap * 1 ∧ cur.toList.take (l.length * 1) = l.map (fun (x : Nat) => Value.int .u8 x) := by
    rcases hown.2 with ⟨_, hz⟩ | ⟨g, cap, cur, hv, r⟩
    · exact absurd hz hl0
    · exact ⟨g, cap, cur, hv, r⟩
  rw [← hml] at hb hnc htake
  have hc := string_calls b g cap cur w p m (fun e => h0 (by rw [e] at hml; simpa using hml.symm)) hb hg hnc hcm (by simpa using hcs) (by rw [Nat.mul_one] at htake; rw [htake, ← e1]; simp [Lib.byteCells, List.map_map])
  refine hc.mono ?_
  rintro e w' ⟨rfl, rfl⟩
  have hgf : Free h g := hf g (by simp [Value.ownBlock])
  have hkeep : ∀ c, c ≠ g → (w.drew.freeze ⟨g, 0, none⟩ m.length).heap[c]? = w.heap[c]? := fun c hc => by
    have hc' : g ≠ c := fun e => hc e.symm
    unfold World.freeze
    split
    · rfl
    · show (w.heap.modify g _)[c]? = w.heap[c]?
      simp [Array.getElem?_modify, hc']
  have hsz : (w.drew.freeze ⟨g, 0, none⟩ m.length).heap.size = w.heap.size := by
    unfold World.freeze
    split
    · rfl
    · show (w.heap.modify g _).size = w.heap.size
      simp
  have hos : ∀ n, (w.drew.freeze ⟨g, 0, none⟩ n).os = w.os ∧ (w.drew.freeze ⟨g, 0, none⟩ n).tape = w.tape ∧ (w.drew.freeze ⟨g, 0, none⟩ n).output = w.output := fun n => by
    unfold World.freeze
    split <;> exact ⟨rfl, rfl, rfl⟩
  refine ⟨_, rfl, h, [], [], Hp.le.refl h, fun _ _ _ _ => rfl, fun _ _ => rfl, hh.stay fun c _ hnf => hkeep c fun e => hnf (by rw [e]; exact hgf), ⟨(hos _).1, (hos _).2.1, (hos _).2.2, Nat.le_of_eq hsz.symm, fun c hc he => hkeep c fun e => he (.inl (by simp [e, Value.ownBlock]))⟩, ?_, ?_, List.nodup_nil, fun b hb => by cases hb⟩
  · exact ⟨_, _, [], [], rfl, rfl, rfl, rfl, rfl⟩
  · have : ofB l = ⟨m.toArray⟩ := by rw [← hm]; rfl
    rw [this]
    exact oneD_tells rfl
end Go.X
namespace Go.X
open Go Go.Proofs
/-! ### reading rows -/
def rdFs : D → Option (List Fq)
  | .sf sz n f => bif Nat.beq n 0 then some [] else bif Nat.beq sz 3 then seqO (fun j => rdF (.one true [.d (f j 0), .d (f j 1), .d (f j 2)])) n 0 else none
  | _ => none
theorem rdF_eqv {x y z : D} {a : Fq} (h : rdF (.one true [.d x, .d y, .d z]) = some a) : x.eqv (a.c 0) ∧ y.eqv (a.c 1) ∧ z.eqv (a.c 2) := by
  obtain ⟨p, h1, h2⟩ := rdF_ok h
  simp only [FS, convT, beq_self_eq_true, cond_true, convCs, convC] at h1
  split at h1
  · rename_i p1 q1 e1 e2
    injection h1 with h1
    subst h1
    split at e2
    · rename_i p2 q2 e3 e4
      injection e2 with e2
      subst e2
      split at e4
      · rename_i p3 q3 e5 e6
        injection e4 with e4
        subst e4
        exact ⟨convD_ok e1 h2.1, convD_ok e3 h2.2.1, convD_ok e5 h2.2.2.1⟩
      · cases e4
    · cases e2
  · cases h1
theorem rdFs_eqv {d : D} {l : List Fq} (h : rdFs d = some l) : d.eqv (.sf 3 l.length (ff l)) := by
  cases d with
  | sf sz n f =>
    simp only [rdFs, cond_eq_ite] at h
    split at h
    · rename_i h0
      have h0 := Nat.eq_of_beq_eq_true h0
      subst h0
      simp only [Option.some.injEq] at h
      subst h
      exact ⟨rfl, .inl rfl⟩
    · split at h
      · rename_i h1
        have h1 := Nat.eq_of_beq_eq_true h1
        subst h1
        obtain ⟨h3, h4⟩ := seqO_ok h
        refine ⟨h3.symm, .inr ⟨rfl, fun j i hj hi => ?_⟩⟩
        have hj' : j < l.length := by omega
        have h5 := h4 j hj'
        rw [Nat.zero_add] at h5
        have hg : l.getD j fz = l[j] := by simp [List.getD, List.getElem?_eq_getElem hj']
        obtain ⟨e1, e2, e3⟩ := rdF_eqv h5
        show (f j i).eqv ((l.getD j fz).c i)
        rw [hg]
        match i, hi with
        | 0, _ => exact e1
        | 1, _ => exact e2
        | 2, _ => exact e3
      · cases h
  | _ => cases h
/-- what is told the same can be taken for the same -/
theorem conv_eqv {x y : D} (h : x.eqv y) (hs : ∀ sz n f, x = .sf sz n f → ∃ m g, y = .sf sz m g) : ∃ p, convD x y = some p ∧ p.h := by
  refine convD_eqv h fun sz n f sz' n' f' e1 e2 => ?_
  subst e1; subst e2
  obtain ⟨m, g, e⟩ := hs _ _ _ rfl
  injection e with e1 e2 e3
  subst e1
  obtain ⟨rfl, h⟩ := h
  refine ⟨rfl, rfl, fun j i hj hi => ?_⟩
  rcases h with h | ⟨_, h⟩
  · omega
  · exact h j i hj hi
theorem conv_sf {sz n sz' n' : Nat} {f f' : Nat → Nat → D} (h : D.eqv (.sf sz n f) (.sf sz' n' f')) : ∃ p, convD (.sf sz n f) (.sf sz' n' f') = some p ∧ p.h := by
  obtain ⟨rfl, h⟩ := h
  cases hz : Nat.beq sz sz' with
  | true =>
    have hz' := Nat.eq_of_beq_eq_true hz
    subst hz'
    refine ⟨.a (n = n ∧ FEq n sz f f'), by simp only [convD, Nat.beq_refl, cond_true], rfl, fun j i hj hi => ?_⟩
    rcases h with h | ⟨_, h⟩
    · omega
    · exact h j i hj hi
  | false =>
    rcases h with rfl | ⟨rfl, _⟩
    · exact ⟨.a (0 = 0), by simp only [convD, hz, cond_false]; rfl, rfl⟩
    · rw [Nat.beq_refl] at hz; cases hz
def rdL : S → Option (List Fq)
  | .one false [.d d] => rdFs d
  | _ => none
theorem rdL_ok {x : S} {l : List Fq} (h : rdL x = some l) : Cv x (FL l) := by
  unfold rdL at h
  split at h
  · rename_i d
    have he := rdFs_eqv h
    cases d with
    | sf sz n f =>
      obtain ⟨p, h1, h2⟩ := conv_sf he
      exact ⟨.c p .t, by simp only [FL, convT, beq_self_eq_true, cond_true, convCs, convC, h1], h2, trivial⟩
    | _ => simp [D.eqv] at he
  · cases h
def rdLL : S → Option (List Fq × List Fq)
  | .one false [.d (.sf 1 2 f)] => match rdFs (f 0 0), rdFs (f 1 0) with
    | some a, some b => some (a, b)
    | _, _ => none
  | _ => none
theorem rdLL_ok {x : S} {a b : List Fq} (h : rdLL x = some (a, b)) : Cv x (FLL [a, b]) := by
  unfold rdLL at h
  split at h
  · rename_i f
    split at h
    · rename_i a' b' h1 h2
      simp only [Option.some.injEq, Prod.mk.injEq] at h
      obtain ⟨rfl, rfl⟩ := h
      have he : D.eqv (.sf 1 2 f) (.sf 1 2 (fff [a', b'])) := by
        refine ⟨rfl, .inr ⟨rfl, fun j i hj hi => ?_⟩⟩
        have : i = 0 := by omega
        subst this
        match j, hj with
        | 0, _ => exact rdFs_eqv h1
        | 1, _ => exact rdFs_eqv h2
      obtain ⟨p, h1, h2⟩ := conv_sf he
      exact ⟨.c p .t, by show (match convD (.sf 1 2 f) (.sf 1 2 (fff [a', b'])), some F.t with | some p, some q => some (F.c p q) | _, _ => none) = _; rw [h1], h2, trivial⟩
    · cases h
  · cases h
def okLB (l : List Fq) : Bool := l.all okB && Nat.ble l.length 1000
theorem okLB_ok {l : List Fq} (h : okLB l = true) : OkL 67108864 l ∧ l.length ≤ 1000 := by
  simp only [okLB, Bool.and_eq_true, List.all_eq_true] at h
  refine ⟨fun i hi => ?_, Nat.le_of_ble_eq_true h.2⟩
  rw [show l.getD i fz = l[i] by simp [List.getD, List.getElem?_eq_getElem hi]]
  exact okB_ok (h.1 _ (List.getElem_mem hi))
/-! ### gauge.New -/
def gcap (n : Int) : Int := min (max n 0) 4096
set_option maxHeartbeats 2000000 in
set_option maxRecDepth 100000 in
theorem new_calls (w : World) (n : Int) :
    Calls Tryz.prog 48 #[.int .i64 n] w fun e w' => e = .returned (.pointer (some ⟨w.heap.size, 0, none⟩)) ∧ w' = w.alloc (.cells #[.int .i64 0, .int .i64 0, .int .i64 (gcap n)] 186) := by
  have hb : Tryz.prog.built 186 (#[(1, Value.int .i64 (gcap n))] : Array (Nat × Value)).toList = some #[.int .i64 0, .int .i64 0, .int .i64 (gcap n)] := by kernel_rfl
  go_enter Tryz.func48, Tryz.ntmps48
  go_wp2
  rw [show min (max n 0) 4096 = gcap n from rfl]
  try
    rw [run_build w 186 _ _ hb]
    simp only [Result.andThen]
    rw [Oper.upon_value]
    go_wp2
  refine bodyPost_ret (results_tmp (t := 2) (by kernel_rfl) _ _ _) rfl ?_
  exact ⟨rfl, rfl⟩
theorem new_den (n : Int) : Den PP 48 [num .i64 n] [num .i64 n] (oneD (.ga (gcap n) 0)) := by
  refine den_calls (fn := Tryz.f48) (by kernel_rfl) (by kernel_rfl) (by kernel_rfl) fun h w vs bs hh hal hnd hlt => ?_
  obtain ⟨v1, vs1, b1, b2, rfl, rfl, t1, rfl, rfl⟩ := hal
  have hb1 := (own_one t1).2
  subst hb1
  have e1 := num_arg t1
  subst e1
  refine (new_calls w n).mono ?_
  rintro e w' ⟨rfl, rfl⟩
  have hf : Free h w.heap.size := Free.new hh (Nat.le_refl _)
  have hold : ∀ c, c < w.heap.size → (w.alloc (.cells #[.int .i64 0, .int .i64 0, .int .i64 (gcap n)] 186)).heap[c]? = w.heap[c]? := fun c hc => by
    show (w.heap.push _)[c]? = w.heap[c]?
    rw [Array.getElem?_push_lt hc, Array.getElem?_eq_getElem hc]
  have hnew : (w.alloc (.cells #[.int .i64 0, .int .i64 0, .int .i64 (gcap n)] 186)).heap[w.heap.size]? = some (.cells #[.int .i64 0, .int .i64 0, .int .i64 (gcap n)] 186 (0, 0)) := by
    show (w.heap.push _)[w.heap.size]? = some _
    simp
  have hsz : (w.alloc (.cells #[.int .i64 0, .int .i64 0, .int .i64 (gcap n)] 186)).heap.size = w.heap.size + 1 := by simp
  have hst := hh.stay (w' := w.alloc (.cells #[.int .i64 0, .int .i64 0, .int .i64 (gcap n)] 186)) fun c hc _ => hold c hc
  have ho : (w.alloc (.cells #[.int .i64 0, .int .i64 0, .int .i64 (gcap n)] 186)).os = w.os ∧ (w.alloc (.cells #[.int .i64 0, .int .i64 0, .int .i64 (gcap n)] 186)).tape = w.tape ∧ (w.alloc (.cells #[.int .i64 0, .int .i64 0, .int .i64 (gcap n)] 186)).output = w.output := ⟨rfl, rfl, rfl⟩
  revert hold hnew hsz hst ho
  generalize w.alloc (.cells #[.int .i64 0, .int .i64 0, .int .i64 (gcap n)] 186) = w'
  intro hold hnew hsz hst ho
  have hle : h.le { h with g := fun c => if c = w.heap.size then some (gcap n) else h.g c } := ⟨fun _ _ _ e => e, fun c l' hc => by
    show (if c = w.heap.size then some (gcap n) else h.g c) = some l'
    by_cases e : c = w.heap.size
    · subst e; rw [hf.g] at hc; cases hc
    · rw [if_neg e]; exact hc⟩
  refine ⟨_, rfl, { h with g := fun c => if c = w.heap.size then some (gcap n) else h.g c }, [], [], hle, fun _ _ _ _ => rfl, fun c hc => ?_, ⟨hst.c, fun c l' hc => ?_, fun c l' i hc => ?_⟩, ⟨ho.1, ho.2.1, ho.2.2, by omega, fun c hc _ => hold c hc⟩, ?_, one_own ⟨⟨w.heap.size, rfl, ?_⟩, rfl⟩, List.nodup_nil, fun b hb => by cases hb⟩
  · show (if c = w.heap.size then some (gcap n) else h.g c) = h.g c
    rw [if_neg (by omega)]
  · have hc : (if c = w.heap.size then some (gcap n) else h.g c) = some l' := hc
    by_cases e : c = w.heap.size
    · subst e
      rw [if_pos rfl] at hc
      injection hc with hc
      subst hc
      exact ⟨0, 0, 186, hnew⟩
    · rw [if_neg e] at hc; exact hst.g c l' hc
  · have hc : (if c = w.heap.size then some (gcap n) else h.g c) = some l' := hc
    by_cases e : c = w.heap.size
    · subst e; exact hf.c i
    · rw [if_neg e] at hc; exact hh.ap c l' i hc
  · exact ⟨_, _, [], [], rfl, rfl, oneD_tells rfl, rfl, rfl⟩
  · show (if w.heap.size = w.heap.size then some (gcap n) else h.g w.heap.size) = some (gcap n)
    rw [if_pos rfl]
/-! ### the table -/
def rdBl : S → Option (List Nat)
  | .bld t e l => bif Nat.beq t 229 && Nat.beq e 5 then some l else none
  | .box t [.d (.v (.pointer none)), .app 0 _ _] => bif Nat.beq t 229 then some [] else none
  | _ => none
theorem rdBl_ok {x : S} {l : List Nat} (h : rdBl x = some l) : Cv x (.bld 229 5 l) := by
  unfold rdBl at h
  split at h
  · rename_i t e l'
    simp only [cond_eq_ite] at h
    split at h
    · rename_i hb
      simp only [Option.some.injEq] at h
      subst h
      exact ⟨.a (l' = l'), by simp only [convT, hb, cond_true], rfl⟩
    · cases h
  · rename_i t n f
    simp only [cond_eq_ite] at h
    split at h
    · rename_i hb
      simp only [Option.some.injEq] at h
      subst h
      exact ⟨.a (([] : List Nat) = []), by simp only [convT, hb, cond_true], rfl⟩
    · cases h
  · cases h
def k280 : List S → Option (List S × S)
  | [.one false [.d (.v (.string s))], .one false [.d (.v (.int .u8 c))]] => nS (num .i64 (idxS s c)) fun r => some ([strS s, num .u8 c], r)
  | _ => none
def k307 : List S → Option (List S × S)
  | [.one false [.d (.v (.string s))], .one false [.d (.v (.int .u8 c))]] => nS (num .i64 (Lib.countByte s.data.toList c.toNat.toUInt8 : Nat)) fun r => some ([strS s, num .u8 c], r)
  | _ => none
def k48 : List S → Option (List S × S)
  | [.one false [.d (.v (.int .i64 n))]] => nS (oneD (.ga (gcap n) 0)) fun r => some ([num .i64 n], r)
  | _ => none
def k236 : List S → Option (List S × S)
  | [.one false [.d (.ga l 0)], .one false [.d (.v (.int .i64 n))]] => some ([oneD (.ga l 0), num .i64 n], .tup [])
  | _ => none
def k138 : List S → Option (List S × S)
  | [x, .one false [.d (.v (.string s))]] => match rdBl x with
    | some l => bif Nat.ble (l.length + s.size) 1000000 then fL (l ++ sb s) fun m => fN s.size fun n => some ([.bld 229 5 m, strS s], .tup [oneC (.int .i64 n), oneC .nilIface]) else none
    | none => none
  | _ => none
def k139 : List S → Option (List S × S)
  | [x] => match rdBl x with
    | some (a :: l) => bif bytesB (a :: l) then nS (oneD (.v (.string (ofB (a :: l))))) fun r => some ([.no], r) else none
    | _ => none
  | _ => none
def k67 : List S → Option (List S × S)
  | [x] => match rdL x with
    | some [] => nS (FL []) fun r => some ([FL []], r)
    | some (a :: l) => bif okLB (a :: l) then nS (FO (rqs (fvs (a :: l)))) fun r => some ([FL (a :: l)], r) else none
    | none => none
  | _ => none
def k22 : List S → Option (List S × S)
  | [x] => match rdLL x with
    | some (a, b) => bif okLB a && (okLB b && okLB (rqs (fvs a))) then
        bif Nat.beq a.length b.length then nS (.tup [flc (rqs (addQ (fvs a) (fvs b))), bc true]) fun r => some ([FLL [a, b]], r)
        else nS (.tup [flc [], bc false]) fun r => some ([FLL [a, b]], r)
      else none
    | none => none
  | _ => none
def k47 : List S → Option (List S × S)
  | [.one false [.d (.v (.int .i64 n))]] => nS (FO (rqs (noughts (n300 n)))) fun r => some ([num .i64 n], r)
  | _ => none
noncomputable def KT (f : FuncId) (es : List S) : Option (List S × S) :=
  bif Nat.beq f 280 then k280 es else bif Nat.beq f 307 then k307 es else bif Nat.beq f 48 then k48 es else bif Nat.beq f 236 then k236 es else
  bif Nat.beq f 138 then k138 es else bif Nat.beq f 139 then k139 es else bif Nat.beq f 67 then k67 es else bif Nat.beq f 22 then k22 es else bif Nat.beq f 47 then k47 es else K0 f es
theorem Den.res {f : FuncId} {args os : List S} {res res' : S} (hd : Den PP f args os res) (hr : Cv res res') : Den PP f args os res' := by
  intro h w vs bs hh hal hn hl
  refine (hd h w vs bs hh hal hn hl).mono fun v w' ⟨k, bo, br, R⟩ => ?_
  obtain ⟨p, h3, h4⟩ := hr
  obtain ⟨br', h5, h6⟩ := convT_ok R.res h3 h4
  exact ⟨k, bo, br', R.le, R.newc, R.newg, R.holds, R.fr, R.outs, h5, R.nodup.sublist ((List.Sublist.refl _).append h6), fun b hb => R.mine b (((List.Sublist.refl _).append h6).subset hb)⟩
theorem Den.args {f : FuncId} {args args' os : List S} {res : S} (hd : Den PP f args os res) (ha : Cvs args' args) : Den PP f args' os res := by
  intro h w vs bs hh hal hn hl
  obtain ⟨bs', h1, h2⟩ := hal.conv ha
  refine (hd h w vs bs' hh h1 (hn.sublist h2) (fun b hb => hl b (h2.subset hb))).mono fun v w' ⟨k, bo, br, R⟩ => ?_
  exact ⟨k, bo, br, R.le, fun b hb hnb => R.newc b hb fun hb' => hnb (h2.subset hb'), R.newg, R.holds, ⟨R.fr.os, R.fr.tape, R.fr.output, R.fr.size, fun b hb hn => R.fr.block b hb fun hx => hn (hx.imp (fun hb => h2.subset hb) id)⟩, R.outs, R.res,
    R.nodup, fun b hb => (R.mine b hb).imp (fun h => h.imp id fun hb => h2.subset hb) id⟩
theorem nS_den {f : FuncId} {args os os' : List S} {x res : S} (h : nS x (fun r => some (os, r)) = some (os', res)) (hd : Den PP f args os x) : Den PP f args os' res := by
  obtain ⟨y, h1, h2⟩ := nS_ok h
  simp only [Option.some.injEq, Prod.mk.injEq] at h1
  obtain ⟨rfl, rfl⟩ := h1
  exact hd.res h2
theorem den_arg {f : FuncId} {x y : S} {os : List S} {res : S} (hd : Den PP f [y] os res) (h : Cv x y) : Den PP f [x] os res := hd.args (.cons h .nil)
/-- a plain argument stays -/
theorem Cv.string (s : ByteArray) : Cv (strS s) (strS s) := ⟨.c (.a (_ = _)) .t, rfl, rfl, trivial⟩
theorem k280_ok {es os : List S} {res : S} (h : k280 es = some (os, res)) : Den PP 280 es os res := by
  unfold k280 at h
  split at h
  · exact nS_den h (idx_den _ _)
  · cases h
theorem k307_ok {es os : List S} {res : S} (h : k307 es = some (os, res)) : Den PP 307 es os res := by
  unfold k307 at h
  split at h
  · exact nS_den h (cnt_den _ _)
  · cases h
theorem k48_ok {es os : List S} {res : S} (h : k48 es = some (os, res)) : Den PP 48 es os res := by
  unfold k48 at h
  split at h
  · exact nS_den h (new_den _)
  · cases h
theorem k236_ok {es os : List S} {res : S} (h : k236 es = some (os, res)) : Den PP 236 es os res := by
  unfold k236 at h
  split at h
  · simp only [Option.some.injEq, Prod.mk.injEq] at h
    obtain ⟨rfl, rfl⟩ := h
    exact note_den _ _
  · cases h
theorem k138_ok {es os : List S} {res : S} (h : k138 es = some (os, res)) : Den PP 138 es os res := by
  unfold k138 at h
  split at h
  · rename_i x s
    split at h
    · rename_i l hx
      simp only [cond_eq_ite, fL_eq, fN_eq] at h
      split at h
      · rename_i hb
        simp only [Option.some.injEq, Prod.mk.injEq] at h
        obtain ⟨rfl, rfl⟩ := h
        exact (write_den l s (Nat.le_of_ble_eq_true hb)).args (.cons (rdBl_ok hx) (.cons (Cv.string s) .nil))
      · cases h
    · cases h
  · cases h
theorem k139_ok {es os : List S} {res : S} (h : k139 es = some (os, res)) : Den PP 139 es os res := by
  unfold k139 at h
  split at h
  · rename_i x
    split at h
    · rename_i a l hx
      simp only [cond_eq_ite] at h
      split at h
      · rename_i hb
        exact nS_den h (den_arg (string_den _ (by simp) hb) (rdBl_ok hx))
      · cases h
    · cases h
  · cases h
theorem k67_ok {es os : List S} {res : S} (h : k67 es = some (os, res)) : Den PP 67 es os res := by
  unfold k67 at h
  split at h
  · rename_i x
    split at h
    · rename_i hx
      exact nS_den h (den_arg row_norm_nil (rdL_ok hx))
    · rename_i a l hx
      simp only [cond_eq_ite] at h
      split at h
      · rename_i hb
        obtain ⟨h1, h2⟩ := okLB_ok hb
        exact nS_den h (den_arg (row_norm (a :: l) (by simp) (by omega) h1) (rdL_ok hx))
      · cases h
    · cases h
  · cases h
theorem k22_ok {es os : List S} {res : S} (h : k22 es = some (os, res)) : Den PP 22 es os res := by
  unfold k22 at h
  split at h
  · rename_i x
    split at h
    · rename_i a b hx
      simp only [cond_eq_ite] at h
      split at h
      · rename_i hb
        simp only [Bool.and_eq_true] at hb
        obtain ⟨h1, h2⟩ := okLB_ok hb.1
        obtain ⟨h3, h4⟩ := okLB_ok hb.2.1
        obtain ⟨h5, h6⟩ := okLB_ok hb.2.2
        split at h
        · rename_i he
          exact nS_den h (den_arg (row_add a b (Nat.eq_of_beq_eq_true he) (by omega) h1 h3 h5) (rdLL_ok hx))
        · rename_i he
          exact nS_den h (den_arg (row_add_no a b (fun e => he (by rw [e]; exact Nat.beq_refl _)) (by omega) h1) (rdLL_ok hx))
      · cases h
    · cases h
  · cases h
theorem k47_ok {es os : List S} {res : S} (h : k47 es = some (os, res)) : Den PP 47 es os res := by
  unfold k47 at h
  split at h
  · exact nS_den h (row_zero _ _ (n300_eq _))
  · cases h
theorem KT_ok (f : FuncId) (es os : List S) (res : S) (h : KT f es = some (os, res)) : Den PP f es os res := by
  unfold KT at h
  simp only [cond_eq_ite] at h
  repeat' split at h
  all_goals (try rename_i e; try have e := Nat.eq_of_beq_eq_true e; try subst e)
  · exact k280_ok h
  · exact k307_ok h
  · exact k48_ok h
  · exact k236_ok h
  · exact k138_ok h
  · exact k139_ok h
  · exact k67_ok h
  · exact k22_ok h
  · exact k47_ok h
  · exact K0_ok h
end Go.X
