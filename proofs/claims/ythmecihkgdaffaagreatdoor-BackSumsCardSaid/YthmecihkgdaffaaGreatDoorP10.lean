/- Part 10 of the proof of BackSums: One operation of a region with its guard; a region in the text's order; what is checked where the order is drawn. No conditions but those that each theorem names. -/
import Derived.Test.YthmecihkgdaffaaGreatDoorP09
namespace Go.X
open Go

/-- What is foretold: a truth value; a call's arguments as the contract has them, what comes back of what was lent, the result. -/
inductive Or where
  | b (x : Bool)
  | c (es os : List S) (res : S)
  | k (es os : List S) (res : S)
  | s (x : Bool)
  | m (x : Bool)
  | n
structure Env where
  T : Tab
  K : FuncId → List S → List S → S → Prop
  n : Nat
  pl : List Nat
  M : TypeId → String → Option FuncId
structure EnvOk (cx : Cx) (V : Env) : Prop where
  meth : ∀ t m f v w, V.M t m = some f → (method (cx.P.types.size + Made.depth) t v m).run cx.P w = .ok (f, v) w
  T : cx.T = V.T
  tab : TabOk cx.P cx.T
  n : cx.n = V.n
  pin : ∀ t, inL V.pl t = false → cx.pin t = none
  den : ∀ f es os res, V.K f es os res → Den cx.P f es os res

def callOf : Op → Option (FuncId × Array Operand)
  | .call { callee := .value (.func f), args, .. } => some (f, args)
  | _ => none
def isAppOf (d : Nat) (o : Oper) : Bool :=
  match o.op with
  | .call { callee := .builtin .append, args, .. } => match args.toList with
    | .tmp t :: _ => Nat.beq t d
    | _ => false
  | _ => false
def tkOf (ops : List Oper) : Option Tmp → Bool
  | some d => ops.any (isAppOf d)
  | none => false
def dstOk (V : Env) : Option Tmp → Bool
  | some d => Nat.blt d V.n && !inL V.pl d
  | none => true
def isCmp : BinOp → Bool
  | .eql => true
  | .neq => true
  | .lss => true
  | .leq => true
  | .gtr => true
  | .geq => true
  | _ => false
/-- operations of which nothing is to be shown -/
def trivOp : Op → Bool
  | .move _ => true
  | .assign _ => true
  | .alloc _ => true
  | .box .. => true
  | .build .. => true
  | .buildSlice .. => true
  | .load .. => true
  | .store .. => true
  | .nilCheck _ => true
  | .fieldAddr .. => true
  | .extract .. => true
  | .call { callee := .builtin .len, .. } => true
  | .call { callee := .builtin .min, .. } => true
  | .call { callee := .builtin .max, .. } => true
  | .binOp op _ _ _ _ => isCmp op
  | .unOp .not _ _ => true
  | _ => false
/-- what is owned goes over, through a reference -/
def assignMoveE (g : Lk) (x : Operand) : Option Eff :=
  match src g x with
  | some (some t, _, .ref r) => match r.c, g r.s with
    | none, some (k, .one false [.own sz n f]) => bif Nat.beq k r.k then some { rd := [r.s, t], md := [(r.s, .no)], res := .one false [.own sz n f], pre := True } else none
    | _, _ => none
  | _ => none
def isAppend : Op → Bool
  | .call { callee := .builtin .append, .. } => true
  | _ => false
def appendNewC (T : Tab) (g : Lk) : Op → Option Eff
  | .call { callee := .builtin .append, args, argTypes } => match args.toList, argTypes.toList with
    | [x, y], [t, t'] => bif Nat.beq t t' then appendNewE T g t x y else none
    | _, _ => none
  | _ => none
def coreE (T : Tab) (g : Lk) (tk : Bool) (o : Oper) (orc : List Or) : Option (Eff × List Or) :=
  match o.op, orc with
  | .assign x, .m true :: r => match assignMoveE g x with
    | some e => some (e, r)
    | none => none
  | .assign x, .m false :: r => match assignE g x with
    | some e => some (e, r)
    | none => none
  | op, .n :: r => bif isAppend op then match appendNewC T g op with
      | some e => some (e, r)
      | none => none
    else match core T g tk op with
      | some e => some (e, .n :: r)
      | none => none
  | _, _ => match core T g tk o.op with
    | some e => some (e, orc)
    | none => none
/-- a call through an interface: the receiver's type is known -/
def invOf : Op → Option (Operand × String × Array Operand)
  | .call { callee := .invoke r m, args, .. } => some (r, m, args)
  | _ => none
def ifcOf (g : Lk) (x : Operand) : Option (List Nat × TypeId × Bool × List C) :=
  match src g x with
  | some (s, _, .ifc t ag cs) => some (slots s, t, ag, cs)
  | _ => none
def invE (V : Env) (g : Lk) (r : Operand) (m : String) (xs : List Operand) (es os : List S) (res : S) : Option EffX :=
  match ifcOf g r, es, os with
  | some (rd, t, ag, cs), e :: es', _ :: os' => match V.M t m, convT (.one ag cs) e, argsE g xs es' os' with
    | some f, some p, some (r', l, q) => bif firm res && plainS e then some { rd := rd ++ r', md := [], pt := l, res, pre := .c (.c p q) (.a (V.K f es os res)) } else none
    | _, _, _ => none
  | _, _, _ => none
/-- a store that gives over what is owned -/
def storeOf : Op → List Or → Option (Bool × TypeId × Operand × Operand × List Or)
  | .store t a x, .s b :: r => some (b, t, a, x, r)
  | _, _ => none
def opE (V : Env) (g : Lk) (tk : Bool) (o : Oper) (orc : List Or) : Option (EffX × List Or) :=
  match callOf o.op with
  | some (f, xs) => match orc with
    | .c es os res :: r => match callE V.K g f xs.toList es os res with
      | some e => some (e, r)
      | none => none
    | .k es os res :: r => match callR V.K g f xs.toList es os res with
      | some e => some (e, r)
      | none => none
    | _ => none
  | none => match invOf o.op with
  | some (r, m, xs) => match orc with
    | .c es os res :: rest => match invE V g r m xs.toList es os res with
      | some e => some (e, rest)
      | none => none
    | _ => none
  | none => match storeOf o.op orc with
  | some (b, t, a, x, r) => bif o.dst.isSome then none else match b with
    | true => match storeX V.T g t a x with
      | some e => some (e, r)
      | none => none
    | false => match storeE V.T g t a x with
      | some e => some (e.x true, r)
      | none => none
  | none => bif isStore o.op && o.dst.isSome then none else match coreE V.T g tk o orc with
    | some (e, r) => some (e.x (trivOp o.op), r)
    | none => none
def dstAt (ops : List Oper) (j : Nat) : Option Tmp :=
  match ops[j]? with
  | some o => o.dst
  | none => none
def boolAt (g : Lk) (d : Nat) : Option Bool :=
  match scal g (.tmp d) with
  | some (_, .bool t) => some t
  | _ => none
/-- a slot of what was not done -/
def undefAt (g : Lk) (d : Nat) : Bool :=
  match g d with
  | some (_, .tup []) => true
  | _ => false
def stepE (V : Env) (all : List Oper) (g : Lk) (o : Oper) (orc : List Or) : Option (EffX × List Or) :=
  bif !dstOk V o.dst then none else
  match o.guard with
  | none => opE V g (tkOf all o.dst) o orc
  | some (j, want) => match dstAt all j with
    | some d => bif undefAt g d then some ({ rd := [d], md := [], pt := [], res := .tup [], pre := .t }, orc) else match boolAt g d, orc with
      | some t, .b x :: r => bif x == want then
          match opE V g (tkOf all o.dst) o r with
          | some (e, r') => some ({ e with rd := d :: e.rd, pre := .c (.a (t = x)) e.pre }, r')
          | none => none
        else some ({ rd := [d], md := [], pt := [], res := .tup [], pre := .a (t = x) }, r)
      | _, _ => none
    | none => none
def applyE (st : St) (e : EffX) (d : Option Tmp) : St := dstOf (puts (mods st e.md) e.pt) d e.res
def passE (V : Env) (all : List Oper) : St → List Oper → List Or → Option (List EffX × St × List Or)
  | st, [], r => some ([], st, r)
  | st, o :: os, r => match stepE V all (stGet st) o r with
    | some (e, r') => match passE V all (applyE st e o.dst) os r' with
      | some (es, st', r'') => some (e :: es, st', r'')
      | none => none
    | none => none
def preOf : List EffX → F
  | [] => .t
  | e :: es => .c e.pre (preOf es)

theorem stGet_apply (st : St) (e : EffX) (d : Option Tmp) : stGet (applyE st e d) = uponX (stGet st) e d := by
  simp only [applyE, uponX, stGet_dst, stGet_puts, stGet_mods]

/-! ### one operation -/
theorem cmp_pre {kd : TyK} {op : BinOp} {x y v : Value} {p : Prop} (h : binV kd op x y = some (v, p)) (hc : isCmp op = true) : p := by
  unfold binV at h
  split at h
  · simp only [cond_eq_ite] at h
    cases op <;> simp [isCmp] at hc <;> simp [isShift, binI] at h <;> exact h.2.2
  · cases op <;> simp [isCmp] at hc <;> simp [binS] at h <;> exact h.2
  · split at h
    · cases op <;> simp [isCmp] at hc <;> simp [binB] at h <;> exact h.2
    · cases h
  · cases h
theorem triv_core {T : Tab} {g : Lk} {tk : Bool} {o : Op} {e : Eff} (h : core T g tk o = some e) (ht : trivOp o = true) : e.pre := by
  unfold trivOp at ht
  split at ht
  · simp only [core, moveE, cond_eq_ite] at h
    repeat' split at h
    all_goals first | (cases h; done) | (simp only [eff, Option.some.injEq] at h; subst h; trivial)
  · simp only [core, assignE, moveE, cond_eq_ite] at h
    repeat' split at h
    all_goals first | (cases h; done) | (simp only [eff, Option.some.injEq] at h; subst h; trivial)
  · simp only [core, allocE, cond_eq_ite] at h
    repeat' split at h
    all_goals first | (cases h; done) | (simp only [eff, Option.some.injEq] at h; subst h; trivial)
  · simp only [core, boxE, cond_eq_ite] at h
    repeat' split at h
    all_goals first | (cases h; done) | (simp only [eff, Option.some.injEq] at h; subst h; trivial)
  · simp only [core, buildE, cond_eq_ite] at h
    repeat' split at h
    all_goals first | (cases h; done) | (simp only [Option.some.injEq] at h; subst h; trivial)
  · simp only [core, buildSliceE, emptyE, cond_eq_ite] at h
    repeat' split at h
    all_goals first | (cases h; done) | (simp only [eff, Option.some.injEq] at h; subst h; trivial)
  · simp only [core, loadE, cond_eq_ite] at h
    repeat' split at h
    all_goals first | (cases h; done) | (simp only [eff, Option.some.injEq] at h; subst h; trivial)
  · simp only [core, storeE, cond_eq_ite] at h
    repeat' split at h
    all_goals first | (cases h; done) | (simp only [Option.some.injEq] at h; subst h; trivial)
  · simp only [core, nilCheckE, cond_eq_ite] at h
    repeat' split at h
    all_goals first | (cases h; done) | (simp only [eff, Option.some.injEq] at h; subst h; trivial)
  · simp only [core, fieldAddrE, cond_eq_ite] at h
    repeat' split at h
    all_goals first | (cases h; done) | (simp only [eff, Option.some.injEq] at h; subst h; trivial)
  · simp only [core, extractE, cond_eq_ite] at h
    repeat' split at h
    all_goals first | (cases h; done) | (simp only [eff, Option.some.injEq] at h; subst h; trivial)
  · simp only [core] at h
    unfold builtinE at h
    split at h
    · simp only [lenE] at h
      repeat' split at h
      all_goals first | (cases h; done) | (simp only [eff, Option.some.injEq] at h; subst h; trivial)
    all_goals simp_all
  · simp only [core] at h
    unfold builtinE at h
    split at h
    all_goals first
      | (cases h; done)
      | (simp_all; done)
      | (simp only [minMaxE, cond_eq_ite] at h
         repeat' split at h
         all_goals first | (cases h; done) | (simp only [eff, Option.some.injEq] at h; subst h; trivial))
  · simp only [core] at h
    unfold builtinE at h
    split at h
    all_goals first
      | (cases h; done)
      | (simp_all; done)
      | (simp only [minMaxE, cond_eq_ite] at h
         repeat' split at h
         all_goals first | (cases h; done) | (simp only [eff, Option.some.injEq] at h; subst h; trivial))
  · rename_i op t x y ty
    simp only [core, binE] at h
    split at h
    · split at h
      · rename_i hv
        simp only [effp, Option.some.injEq] at h
        subst h
        exact cmp_pre hv ht
      · cases h
    · simp only [cond_eq_ite] at h
      repeat' split at h
      all_goals first | (cases h; done) | (simp only [eff, Option.some.injEq] at h; subst h; trivial)
  · simp only [core, unE] at h
    split at h
    · simp_all
    · simp only [eff, Option.some.injEq] at h; subst h; trivial
    · cases h
  · cases ht
theorem coreE_cases {T : Tab} {g : Lk} {tk : Bool} {o : Oper} {orc r : List Or} {e : Eff} (h : coreE T g tk o orc = some (e, r)) :
    (core T g tk o.op = some e) ∨ (∃ x, o.op = .assign x ∧ assignMoveE g x = some e) ∨ (isAppend o.op = true ∧ appendNewC T g o.op = some e) := by
  unfold coreE at h
  split at h
  · rename_i x r' ho
    split at h
    · rename_i e' he
      simp only [Option.some.injEq, Prod.mk.injEq] at h
      exact .inr (.inl ⟨x, ho, by rw [he, h.1]⟩)
    · cases h
  · rename_i x r' ho
    split at h
    · rename_i e' he
      simp only [Option.some.injEq, Prod.mk.injEq] at h
      exact .inl (by rw [ho, ← h.1]; exact he)
    · cases h
  · cases ha : isAppend o.op with
    | true =>
      rw [ha] at h
      simp only [cond_true] at h
      split at h
      · rename_i e' he
        simp only [Option.some.injEq, Prod.mk.injEq] at h
        exact .inr (.inr ⟨rfl, by rw [he, h.1]⟩)
      · cases h
    | false =>
      rw [ha] at h
      simp only [cond_false] at h
      split at h
      · rename_i e' he
        simp only [Option.some.injEq, Prod.mk.injEq] at h
        exact .inl (by rw [he, h.1])
      · cases h
  · split at h
    · rename_i e' he
      simp only [Option.some.injEq, Prod.mk.injEq] at h
      exact .inl (by rw [he, h.1])
    · cases h
theorem good_appendNewC {cx : Cx} {g : Lk} {o : Oper} {e : Eff} (hT : TabOk cx.P cx.T) (hd : DstOk cx o.dst) (hc : appendNewC cx.T g o.op = some e) (hp : e.pre) : Good cx g o e := by
  unfold appendNewC at hc
  split at hc
  · rename_i xs ts ho
    split at hc
    · rename_i x y t t' hx ht
      cases hq : Nat.beq t t' with
      | false => rw [hq] at hc; simp at hc
      | true =>
        rw [hq] at hc
        have := Nat.eq_of_beq_eq_true hq
        subst this
        refine good_appendNew hT hd (o := o) (t := t) (x := x) (y := y) ?_ hc hp
        rw [ho]
        have e1 : xs = #[x, y] := by rw [← hx]
        have e2 : ts = #[t, t] := by rw [← ht]
        rw [e1, e2]
    · cases hc
  · cases hc
theorem appendNew_local {T : Tab} {g g' : Lk} {o : Op} {e : Eff} (h : appendNewC T g o = some e) (hg : Agree g g' e.rd) : appendNewC T g' o = some e := by
  unfold appendNewC at h ⊢
  split at h
  · rename_i xs ts
    split at h
    · rename_i x y t t' hx ht
      cases hq : Nat.beq t t' with
      | false => rw [hq] at h; simp at h
      | true =>
        rw [hq] at h
        simp only [cond_true] at h ⊢
        have : (∀ s ∈ opSlots x, s ∈ e.rd) ∧ (∀ s ∈ opSlots y, s ∈ e.rd) := by
          unfold appendNewE at h
          split at h
          · rename_i h1 h2
            have e1 := src_slots h1; have e2 := plainOf_slots h2
            simp only [cond_eq_ite] at h
            split at h
            · simp only [Option.some.injEq] at h; subst h; subst e2; rw [← e1]
              constructor <;> (intro s hs; simp [hs])
            · cases h
          · cases h
        have e1 := src_congr (hg.mono this.1); have e2 := plainOf_congr (hg.mono this.2)
        unfold appendNewE at h ⊢
        rw [e1, e2]; exact h
    · cases h
  · cases h
theorem assignMove_pre {g : Lk} {x : Operand} {e : Eff} (h : assignMoveE g x = some e) : e.pre := by
  unfold assignMoveE at h
  simp only [cond_eq_ite] at h
  repeat' split at h
  all_goals first | (cases h; done) | (simp only [Option.some.injEq] at h; subst h; trivial)
theorem good_assignMove {cx : Cx} {g : Lk} {o : Oper} {x : Operand} {e : Eff} (hd : DstOk cx o.dst) (ho : o.op = .assign x) (hc : assignMoveE g x = some e) : Good cx g o e := by
  have hx : ∀ ev : Operand → Value, execOp ev o = pure (.value (ev x)) := fun ev => by simp [execOp, ho]
  unfold assignMoveE at hc
  split at hc
  · rename_i t k r hs
    split at hc
    · rename_i k' sz n f hrc hg
      cases hq : Nat.beq k' r.k with
      | false => rw [hq] at hc; simp at hc
      | true =>
        rw [hq] at hc
        simp only [cond_true, Option.some.injEq] at hc
        subst hc
        have hk := Nat.eq_of_beq_eq_true hq
        subst hk
        rintro a w ⟨h, bs, M⟩
        obtain ⟨_, hr, _⟩ := src_tells M hs
        obtain ⟨k2, y, hy, _, hv⟩ := hr
        rw [hg] at hy
        injection hy with hy
        injection hy with e1 e2
        have hrv := hv e1.symm (.inl hrc)
        unfold rootV at hrv
        rw [hrc] at hrv
        simp only at hrv
        obtain ⟨v, hv2, ht, _⟩ := M.slot r.s _ _ hg
        rw [hrv] at hv2
        injection hv2 with hv2
        rw [← hv2] at ht
        refine ⟨_, w, _, by rw [hx]; rfl, .inl rfl, ?_⟩
        exact M.take hd hg (fun u hu => ⟨rfl, trivial⟩) (fun t cs' h => by cases h) (fun c hc => by rw [noOwn_no] at hc; cases hc) ht trivial
    · cases hc
  · cases hc
theorem triv_pre {T : Tab} {g : Lk} {tk : Bool} {o : Op} {e : Eff} (h : core T g tk o = some e) (hp : (e.x (trivOp o)).pre.h) : e.pre := by
  cases ht : trivOp o with
  | true => exact triv_core h ht
  | false => rw [ht] at hp; exact hp

theorem boolAt_ok {cx : Cx} {g : Lk} {a : Act} {w : World} {d : Nat} {t : Bool} (hs : Sim cx g a w) (h : boolAt g d = some t) : a.tmps[d]? = some (.bool t) := by
  obtain ⟨hp, bs, M⟩ := hs
  unfold boolAt at h
  split at h
  · rename_i r t' hx
    injection h with h; subst h
    have hv := (scal_val M hx).1
    unfold scal at hx
    split at hx
    · rename_i s k v hsrc
      have := src_slots hsrc
      obtain ⟨_, _, h3⟩ := src_tells M hsrc
      cases s with
      | none => simp [slots, opSlots] at this
      | some s =>
        simp only [slots, opSlots, List.cons.injEq, and_true] at this
        subst this
        rw [(h3 _ rfl).2, hv]
    · cases hx
  · cases h
theorem does_inv {cx : Cx} {V : Env} (hV : EnvOk cx V) {g : Lk} {o : Oper} {r : Operand} {m : String} {xs : Array Operand} {ts : Array TypeId} {es os : List S} {res : S} {e : EffX}
    (ho : o.op = .call { callee := .invoke r m, args := xs, argTypes := ts }) (hd : DstOk cx o.dst) (hc : invE V g r m xs.toList es os res = some e) (hp : e.pre.h) : DoesX cx g o e := by
  unfold invE at hc
  split at hc
  · rename_i rd t ag cs e0 es' o0 os' hi
    split at hc
    · rename_i f p r' l q hm hcv hargs
      cases hf : (firm res && plainS e0) with
      | false => rw [hf] at hc; cases hc
      | true =>
        rw [hf] at hc
        simp only [cond_true, Option.some.injEq] at hc
        subst hc
        simp only [Bool.and_eq_true] at hf
        obtain ⟨⟨hp1, hp2⟩, hp3⟩ := hp
        rintro next Q a w ⟨h, bs0, M0⟩ hn
        have hsrc : ∃ s k, src g r = some (s, k, .ifc t ag cs) := by
          unfold ifcOf at hi
          split at hi
          · rename_i s k t' ag' cs' hs
            simp only [Option.some.injEq, Prod.mk.injEq] at hi
            obtain ⟨_, rfl, rfl, rfl⟩ := hi
            exact ⟨s, k, hs⟩
          · cases hi
        obtain ⟨s, k, hs⟩ := hsrc
        obtain ⟨ht, _, _⟩ := src_tells M0 hs
        obtain ⟨_, u, hev, hct⟩ := ht
        obtain ⟨b', h1, h2⟩ := convT_ok (x := .one ag cs) (v := u) (b := []) hct hcv hp1
        have := List.eq_nil_of_sublist_nil h2
        subst this
        refine call_wp (f := f) (vs := #[u] ++ xs.map a.eval) hd hargs hp2 hf.1 M0 false (fun h => by cases h) (pre := true) (e0 := e0) (o0 := o0) (v0 := u) (fun _ => ⟨h1, hf.2⟩) ?_ (hV.den _ _ _ _ hp3) ?_ hn
        · simp [← Array.toList_map]
        · have hmeth := hV.meth t m f u w hm
          have hext : (#[Value.iface t u] ++ xs.map a.eval).extract 1 (#[Value.iface t u] ++ xs.map a.eval).size = xs.map a.eval := by
            apply Array.ext'
            have : (xs.toList.map a.eval).take xs.size = xs.toList.map a.eval := List.take_of_length_le (by rw [List.length_map, Array.length_toList]; exact Nat.le_refl _)
            simp [this]
          have h0 : (#[Value.iface t u] ++ Array.map a.eval xs)[0]? = some (Value.iface t u) := by rw [Array.getElem?_append_left (Nat.zero_lt_one)]; rfl
          have hev' : a.eval r = .iface t u := hev
          unfold execOp
          rw [ho]
          show (do let d ← resolve a.eval _ o.type; invoke d.target d.args : Sem Next).run cx.P w = _
          simp only [resolve, hev', Sem.run_bind, Sem.run_pure, Result.andThen_ok, invoke, h0, hext, callMethod, run_program, hmeth]
    · cases hc
  · cases hc
theorem opE_does {cx : Cx} {V : Env} (hV : EnvOk cx V) {g : Lk} {tk : Bool} {o : Oper} {orc r : List Or} {e : EffX} (hd : dstOk V o.dst = true) (hc : opE V g tk o orc = some (e, r)) (hp : e.pre.h) : DoesX cx g o e := by
  have hd' : DstOk cx o.dst := by
    constructor
    · intro t ht
      rw [ht] at hd
      simp only [dstOk, Bool.and_eq_true] at hd
      rw [hV.n]
      exact Nat.blt_eq ▸ hd.1
    · intro t ht
      rw [ht] at hd
      simp only [dstOk, Bool.and_eq_true, Bool.not_eq_true'] at hd
      exact hV.pin t hd.2
  unfold opE at hc
  split at hc
  · rename_i f xs hco
    split at hc
    · split at hc
      · rename_i e' hce
        injection hc with hc; injection hc with hc _; subst hc
        have : ∃ ts, o.op = .call { callee := .value (.func f), args := xs, argTypes := ts } := by
          unfold callOf at hco
          split at hco
          · rename_i f' xs' ts heq
            injection hco with hco; injection hco with h1 h2; subst h1; subst h2
            exact ⟨_, heq⟩
          · cases hco
        obtain ⟨ts, ho⟩ := this
        exact does_call ho hd' hce hp (hV.den _ _ _ _)
      · cases hc
    · split at hc
      · rename_i e' hce
        injection hc with hc; injection hc with hc _; subst hc
        have : ∃ ts, o.op = .call { callee := .value (.func f), args := xs, argTypes := ts } := by
          unfold callOf at hco
          split at hco
          · rename_i f' xs' ts heq
            injection hco with hco; injection hco with h1 h2; subst h1; subst h2
            exact ⟨_, heq⟩
          · cases hco
        obtain ⟨ts, ho⟩ := this
        exact does_callR ho hd' hce hp (hV.den _ _ _ _)
      · cases hc
    · cases hc
  split at hc
  · rename_i r0 m xs hio
    split at hc
    · split at hc
      · rename_i e' hce
        injection hc with hc; injection hc with hc _; subst hc
        have : ∃ ts, o.op = .call { callee := .invoke r0 m, args := xs, argTypes := ts } := by
          unfold invOf at hio
          split at hio
          · rename_i r' m' xs' ts heq
            injection hio with hio; injection hio with h1 h2; injection h2 with h2 h3; subst h1; subst h2; subst h3
            exact ⟨_, heq⟩
          · cases hio
        obtain ⟨ts, ho⟩ := this
        exact does_inv hV ho hd' hce hp
      · cases hc
    · cases hc
  split at hc
  · rename_i b t x y r0 hso
    have ho : o.op = .store t x y := by
      unfold storeOf at hso
      split at hso
      · rename_i heq; injection hso with hso; injection hso with _ hso; injection hso with h1 h2; injection h2 with h2 h3; injection h3 with h3 _; subst h1; subst h2; subst h3; exact heq
      · cases hso
    cases hds : o.dst.isSome with
    | true => rw [hds] at hc; cases hc
    | false =>
      rw [hds] at hc
      simp only [cond_false] at hc
      split at hc
      · split at hc
        · rename_i e' hce
          injection hc with hc; injection hc with hc _; subst hc
          rw [← hV.T] at hce
          exact does_storeX hV.tab (by simpa using hds) ho hce
        · cases hc
      · split at hc
        · rename_i e' hce
          injection hc with hc; injection hc with hc _; subst hc
          rw [← hV.T] at hce
          exact (Good.does (good_store hV.tab (by simpa using hds) ho hce)).x
        · cases hc
  · cases hst : (isStore o.op && o.dst.isSome) with
    | true => rw [hst] at hc; simp at hc
    | false =>
      rw [hst] at hc
      simp only [cond_false] at hc
      split at hc
      · rename_i e' r' hce0
        injection hc with hc; injection hc with hc _; subst hc
        rcases coreE_cases hce0 with hce | ⟨x, hox, hce⟩ | ⟨hia, hce⟩
        rotate_left
        · exact (Good.does (good_assignMove hd' hox hce)).x
        · rw [← hV.T] at hce
          have hpre : e'.pre := by
            have : trivOp o.op = false := by
              unfold isAppend at hia
              split at hia
              · rename_i heq; rw [heq]; rfl
              · cases hia
            rw [this] at hp; exact hp
          exact (Good.does (good_appendNewC hV.tab hd' hce hpre)).x
        rw [← hV.T] at hce
        refine (Good.does (core_good hV.tab hd' (fun hs => ?_) hce (triv_pre hce hp))).x
        rw [hs] at hst
        simpa using hst
      · cases hc

theorem stepE_ok {cx : Cx} {V : Env} (hV : EnvOk cx V) {ops : Array Oper} {g : Lk} {o : Oper} {orc r : List Or} {e : EffX} (hc : stepE V ops.toList g o orc = some (e, r)) (hp : e.pre.h) {a : Act} {w : World} (hs : Sim cx g a w) :
    (Region.wanted o (yielded ops a.tmps) = true ∧ ∀ (next : Act → World → Prop) (Q : Exit → Act → World → Prop), (∀ a' w', Sim cx (uponX g e o.dst) a' w' → next a' w') → o.wp cx.P a w next Q) ∨
    (Region.wanted o (yielded ops a.tmps) = false ∧ Sim cx (uponX g e o.dst) (a.put o.dst undef) w) := by
  unfold stepE at hc
  cases hd : dstOk V o.dst with
  | false => rw [hd] at hc; simp at hc
  | true =>
    rw [hd] at hc
    simp only [Bool.not_true, cond_false] at hc
    split at hc
    · rename_i hg
      left
      refine ⟨by simp [Region.wanted, hg], fun next Q hn => opE_does hV hd hc hp next Q a w hs hn⟩
    · rename_i j want hg
      split at hc
      · rename_i d hdj
        have hd' : DstOk cx o.dst := by
          constructor
          · intro t' ht
            rw [ht] at hd
            simp only [dstOk, Bool.and_eq_true] at hd
            rw [hV.n]
            exact Nat.blt_eq ▸ hd.1
          · intro t' ht
            rw [ht] at hd
            simp only [dstOk, Bool.and_eq_true, Bool.not_eq_true'] at hd
            exact hV.pin t' hd.2
        cases hu : undefAt g d with
        | true =>
          rw [hu] at hc
          simp only [cond_true, Option.some.injEq, Prod.mk.injEq] at hc
          obtain ⟨rfl, _⟩ := hc
          right
          obtain ⟨h, bs, M⟩ := hs
          refine ⟨?_, M.fin0 hd' (x := .tup []) ⟨[], rfl, rfl, rfl⟩ trivial⟩
          have hg2 : ∃ k, g d = some (k, .tup []) := by
            unfold undefAt at hu
            split at hu
            · rename_i k hk
              exact ⟨k, hk⟩
            · cases hu
          obtain ⟨k, hk⟩ := hg2
          have hsr : src g (.tmp d) = some (some d, k, .tup []) := by simp only [src, hk]
          obtain ⟨⟨vs, h1, h2, _⟩, _, h3⟩ := src_tells M hsr
          have h4 := (h3 _ rfl).2
          have hy : yielded ops a.tmps j = none := by
            unfold dstAt at hdj
            unfold yielded
            rw [Array.getElem?_toList] at hdj
            split at hdj
            · rename_i o' ho'
              rw [ho']
              simp only [Option.bind_some, hdj, h4, h1]
            · cases hdj
          simp [Region.wanted, hg, hy]
        | false =>
        rw [hu] at hc
        simp only [cond_false] at hc
        split at hc
        · rename_i t x r' hb
          have hv := boolAt_ok hs hb
          have hy : yielded ops a.tmps j = some t := by
            unfold dstAt at hdj
            unfold yielded
            rw [Array.getElem?_toList] at hdj
            split at hdj
            · rename_i o' ho'
              rw [ho']
              simp only [Option.bind_some, hdj, hv]
            · cases hdj
          have hw : Region.wanted o (yielded ops a.tmps) = (t == want) := by
            simp only [Region.wanted, hg, hy]
            cases t <;> cases want <;> rfl
          cases hx : (x == want) with
          | true =>
            rw [hx] at hc
            simp only [cond_true] at hc
            split at hc
            · rename_i e' r2 hop
              injection hc with hc; injection hc with hc _; subst hc
              left
              obtain ⟨h1, h2⟩ := hp
              subst h1
              exact ⟨by rw [hw, hx], fun next Q hn => opE_does hV hd hop h2 next Q a w hs hn⟩
            · cases hc
          | false =>
            rw [hx] at hc
            simp only [cond_false, Option.some.injEq, Prod.mk.injEq] at hc
            obtain ⟨rfl, _⟩ := hc
            right
            have hp : t = x := hp
            subst hp
            refine ⟨by rw [hw, hx], ?_⟩
            obtain ⟨h, bs, M⟩ := hs
            exact M.fin0 hd' (x := .tup []) ⟨[], rfl, rfl, rfl⟩ trivial
        · cases hc
      · cases hc

/-! ### locality -/
theorem argE_local {g g' : Lk} {x : Operand} {e o : S} {r : List Nat} {l : List (Nat × S)} {p : F} (h : argE g x e o = some (r, l, p)) (hg : Agree g g' r) : argE g' x e o = some (r, l, p) := by
  have key : ∀ {q : List Nat}, q = opSlots x → (∀ s ∈ q, s ∈ r) → plainOf g' x = plainOf g x ∧ src g' x = src g x := by
    intro q hq hs
    subst hq
    exact ⟨plainOf_congr (hg.mono hs), src_congr (hg.mono hs)⟩
  unfold argE at h
  cases hpl : plainS e with
  | true =>
    rw [hpl] at h
    simp only [cond_true] at h
    split at h
    · rename_i r' ag cs hx
      split at h
      · rename_i q hq
        simp only [Option.some.injEq, Prod.mk.injEq] at h
        obtain ⟨rfl, rfl, rfl⟩ := h
        have := (key (plainOf_slots hx) fun s hs => hs).1
        unfold argE
        rw [hpl]
        simp only [cond_true, this, hx, hq]
      · cases h
    · cases h
  | false =>
    rw [hpl] at h
    simp only [cond_false] at h
    cases hfm : (!firm e || !firm o) with
    | true => rw [hfm] at h; simp at h
    | false =>
      rw [hfm] at h
      simp only [cond_false] at h
      split at h
      · rename_i t k q hx
        have hs := src_slots hx
        split at h
        · rename_i k' y hrc hgr
          cases hb : (Nat.beq k' q.k && ownish y) with
          | false => rw [hb] at h; simp at h
          | true =>
            rw [hb] at h
            simp only [cond_true] at h
            split at h
            · rename_i p' hcv
              simp only [Option.some.injEq, Prod.mk.injEq] at h
              obtain ⟨rfl, rfl, rfl⟩ := h
              have := (key hs.symm.symm fun s hs => by simp only [slots, List.mem_singleton] at hs; simp [hs]).2
              unfold argE
              rw [hpl, hfm]
              simp only [cond_false, this, hx, hg q.s (by simp), hrc, hgr, hb, cond_true, hcv]
            · cases h
        · cases h
      · rename_i t k y hnr hx
        have hs := src_slots hx
        cases hb : ownish y with
        | false => rw [hb] at h; simp at h
        | true =>
          rw [hb] at h
          simp only [cond_true] at h
          split at h
          · rename_i p' hcv
            simp only [Option.some.injEq, Prod.mk.injEq] at h
            obtain ⟨rfl, rfl, rfl⟩ := h
            have := (key hs fun s hs => by simpa [slots] using hs).2
            unfold argE
            rw [hpl, hfm]
            simp only [cond_false, this, hx]
            cases y with
            | ref r => exact absurd rfl (hnr r)
            | _ => simp only [hb, cond_true, hcv]
          · cases h
      · cases h
theorem argsE_local {g g' : Lk} : ∀ {xs : List Operand} {es os : List S} {r : List Nat} {l : List (Nat × S)} {p : F}, argsE g xs es os = some (r, l, p) → Agree g g' r → argsE g' xs es os = some (r, l, p)
  | [], [], [], _, _, _, h, _ => h
  | x :: xs, e :: es, o :: os, _, _, _, h, hg => by
    simp only [argsE, cond_eq_ite] at h
    split at h
    · rename_i r1 l1 p1 r2 l2 p2 h1 h2
      split at h
      · cases h
      · rename_i hd
        simp only [Option.some.injEq, Prod.mk.injEq] at h
        obtain ⟨rfl, rfl, rfl⟩ := h
        simp only [argsE, argE_local h1 (hg.mono fun s hs => by simp [hs]), argsE_local h2 (hg.mono fun s hs => by simp [hs]), cond_eq_ite, if_neg hd]
    · cases h
  | [], [], _ :: _, _, _, _, h, _ => by simp [argsE] at h
  | [], _ :: _, _, _, _, _, h, _ => by simp [argsE] at h
  | _ :: _, [], _, _, _, _, h, _ => by simp [argsE] at h
  | _ :: _, _ :: _, [], _, _, _, h, _ => by simp [argsE] at h
theorem assignMove_local {g g' : Lk} {x : Operand} {e : Eff} (h : assignMoveE g x = some e) (hg : Agree g g' e.rd) : assignMoveE g' x = some e := by
  unfold assignMoveE at h
  split at h
  · rename_i t k r hs
    split at h
    · rename_i k' sz n f hrc hgr
      cases hq : Nat.beq k' r.k with
      | false => rw [hq] at h; simp at h
      | true =>
        rw [hq] at h
        simp only [cond_true, Option.some.injEq] at h
        subst h
        have hs' := src_slots hs
        unfold assignMoveE
        rw [src_congr (hg.mono (by rw [← hs']; intro s h2; simp [slots] at h2; simp [h2])), hs]
        simp only [hrc, hg r.s (by simp), hgr, hq, cond_true]
    · cases h
  · cases h
theorem coreE_local {T : Tab} {g g' : Lk} {tk : Bool} {o : Oper} {orc r : List Or} {e : Eff} (h : coreE T g tk o orc = some (e, r)) (hg : Agree g g' e.rd) : coreE T g' tk o orc = some (e, r) := by
  unfold coreE at h ⊢
  split at h
  · split at h
    · rename_i he
      simp only [Option.some.injEq, Prod.mk.injEq] at h
      obtain ⟨rfl, rfl⟩ := h
      rw [assignMove_local he hg]
    · cases h
  · rename_i x r' ho
    split at h
    · rename_i e' he
      simp only [Option.some.injEq, Prod.mk.injEq] at h
      obtain ⟨rfl, rfl⟩ := h
      have : core T g tk (.assign x) = some e' := he
      have h2 := core_local this hg
      have h3 : assignE g' x = some e' := h2
      rw [h3]
    · cases h
  · cases ha : isAppend o.op with
    | true =>
      rw [ha] at h
      simp only [cond_true] at h ⊢
      split at h
      · rename_i e' he
        simp only [Option.some.injEq, Prod.mk.injEq] at h
        obtain ⟨rfl, rfl⟩ := h
        rw [appendNew_local he hg]
      · cases h
    | false =>
      rw [ha] at h
      simp only [cond_false] at h ⊢
      split at h
      · rename_i e' he
        simp only [Option.some.injEq, Prod.mk.injEq] at h
        obtain ⟨rfl, rfl⟩ := h
        rw [core_local he hg]
      · cases h
  · rename_i hn1 hn2
    split at h
    · rename_i e' he
      simp only [Option.some.injEq, Prod.mk.injEq] at h
      obtain ⟨rfl, rfl⟩ := h
      rw [core_local he hg]
    · cases h
theorem argR_local {g g' : Lk} {x : Operand} {e o : S} {r : List Nat} {p : F} (h : argR g x e o = some (r, p)) (hg : Agree g g' r) : argR g' x e o = some (r, p) := by
  have key : ∀ {q : List Nat}, q = opSlots x → (∀ s ∈ q, s ∈ r) → plainOf g' x = plainOf g x ∧ src g' x = src g x := by
    intro q hq hs
    subst hq
    exact ⟨plainOf_congr (hg.mono hs), src_congr (hg.mono hs)⟩
  unfold argR at h
  cases hpl : plainS e with
  | true =>
    rw [hpl] at h
    simp only [cond_true] at h
    split at h
    · rename_i r' ag cs hx
      split at h
      · rename_i q hq
        simp only [Option.some.injEq, Prod.mk.injEq] at h
        obtain ⟨rfl, rfl⟩ := h
        have := (key (plainOf_slots hx) fun s hs => hs).1
        unfold argR
        rw [hpl]
        simp only [cond_true, this, hx, hq]
      · cases h
    · cases h
  | false =>
    rw [hpl] at h
    simp only [cond_false] at h
    cases hfm : (!firm e || !firm o) with
    | true => rw [hfm] at h; simp at h
    | false =>
      rw [hfm] at h
      simp only [cond_false] at h
      split at h
      · rename_i t k q hx
        have hs := src_slots hx
        split at h
        · rename_i k' bt cs hrc hgr
          cases hb : (Nat.beq k' q.k && !cs.any C.isOwn) with
          | false => rw [hb] at h; simp at h
          | true =>
            rw [hb] at h
            simp only [cond_true] at h
            split at h
            · rename_i p' q' hcv hcv2
              simp only [Option.some.injEq, Prod.mk.injEq] at h
              obtain ⟨rfl, rfl⟩ := h
              have := (key hs.symm.symm fun s hs => by simp only [slots, List.mem_singleton] at hs; simp [hs]).2
              unfold argR
              rw [hpl, hfm]
              simp only [cond_false, this, hx, hg q.s (by simp), hrc, hgr, hb, cond_true, hcv, hcv2]
            · cases h
        · cases h
      · rename_i t k bt cs hx
        have hs := src_slots hx
        cases hb : cs.any C.isOwn with
        | true => rw [hb] at h; simp at h
        | false =>
          rw [hb] at h
          simp only [Bool.not_false, cond_true] at h
          split at h
          · rename_i p' q' hcv hcv2
            simp only [Option.some.injEq, Prod.mk.injEq] at h
            obtain ⟨rfl, rfl⟩ := h
            have := (key hs fun s hs => by simpa [slots] using hs).2
            unfold argR
            rw [hpl, hfm]
            simp only [cond_false, this, hx, hb, Bool.not_false, cond_true, hcv, hcv2]
          · cases h
      · cases h
theorem argsR_local {g g' : Lk} : ∀ {xs : List Operand} {es os : List S} {r : List Nat} {p : F}, argsR g xs es os = some (r, p) → Agree g g' r → argsR g' xs es os = some (r, p)
  | [], [], [], _, _, h, _ => h
  | x :: xs, e :: es, o :: os, _, _, h, hg => by
    simp only [argsR] at h
    split at h
    · rename_i r1 p1 r2 p2 h1 h2
      simp only [Option.some.injEq, Prod.mk.injEq] at h
      obtain ⟨rfl, rfl⟩ := h
      simp only [argsR, argR_local h1 (hg.mono fun s hs => by simp [hs]), argsR_local h2 (hg.mono fun s hs => by simp [hs])]
    · cases h
  | [], [], _ :: _, _, _, h, _ => by simp [argsR] at h
  | [], _ :: _, _, _, _, h, _ => by simp [argsR] at h
  | _ :: _, [], _, _, _, h, _ => by simp [argsR] at h
  | _ :: _, _ :: _, [], _, _, h, _ => by simp [argsR] at h
theorem callE_local {K : FuncId → List S → List S → S → Prop} {g g' : Lk} {f : FuncId} {xs : List Operand} {es os : List S} {res : S} {e : EffX} (hce : callE K g f xs es os res = some e) (hg : Agree g g' e.rd) : callE K g' f xs es os res = some e := by
  unfold callE at hce ⊢
  split at hce
  · rename_i r l p hargs
    cases hf : firm res with
    | false => rw [hf] at hce; simp at hce
    | true =>
      rw [hf] at hce
      simp only [cond_true, Option.some.injEq] at hce
      subst hce
      rw [argsE_local hargs hg]
      simp only [cond_true]
  · cases hce
theorem callR_local {K : FuncId → List S → List S → S → Prop} {g g' : Lk} {f : FuncId} {xs : List Operand} {es os : List S} {res : S} {e : EffX} (hce : callR K g f xs es os res = some e) (hg : Agree g g' e.rd) : callR K g' f xs es os res = some e := by
  unfold callR at hce ⊢
  split at hce
  · rename_i r p r' q h1 h2
    obtain ⟨l, p0⟩ := q
    cases hf : firm res with
    | false => rw [hf] at hce; simp at hce
    | true =>
      rw [hf] at hce
      simp only [cond_true, Option.some.injEq] at hce
      subst hce
      rw [argsR_local h1 (hg.mono fun s hs => by simp [hs]), argsE_local h2 (hg.mono fun s hs => by simp [hs])]
      simp only [cond_true]
  · cases hce
theorem invE_local {V : Env} {g g' : Lk} {r : Operand} {m : String} {xs : List Operand} {es os : List S} {res : S} {e : EffX} (hce : invE V g r m xs es os res = some e) (hg : Agree g g' e.rd) : invE V g' r m xs es os res = some e := by
  have key : ∀ {rd : List Nat} {t : TypeId} {ag : Bool} {cs : List C}, ifcOf g r = some (rd, t, ag, cs) → (∀ s ∈ rd, s ∈ e.rd) → ifcOf g' r = ifcOf g r := by
    intro rd t ag cs hi hs
    have : src g' r = src g r := src_congr (hg.mono (by
      unfold ifcOf at hi
      split at hi
      · rename_i hx
        simp only [Option.some.injEq, Prod.mk.injEq] at hi
        obtain ⟨rfl, _⟩ := hi
        rw [← src_slots hx]; exact hs
      · cases hi))
    unfold ifcOf; rw [this]
  unfold invE at hce ⊢
  split at hce
  · rename_i rd t ag cs e0 es' o0 os' hi
    split at hce
    · rename_i f p r' l q hm hcv hargs
      cases hf : (firm res && plainS e0) with
      | false => rw [hf] at hce; cases hce
      | true =>
        rw [hf] at hce
        simp only [cond_true, Option.some.injEq] at hce
        subst hce
        rw [key hi (fun s hs => by simp [hs]), hi]
        simp only [hm, hcv, argsE_local hargs (hg.mono fun s hs => by simp [hs]), hf, cond_true]
    · cases hce
  · cases hce
theorem storeX_local {T : Tab} {g g' : Lk} {t : TypeId} {x y : Operand} {e : EffX} (hc : storeX T g t x y = some e) (hg : Agree g g' e.rd) : storeX T g' t x y = some e := by
  unfold storeX at hc ⊢
  simp only [cond_eq_ite] at hc ⊢
  split at hc
  · cases hc
  rename_i hk
  rw [if_neg hk]
  split at hc
  · rename_i rd s k off q ky ag xs hx hy
    split at hc
    · rename_i bt cs hb
      split at hc
      · rename_i hq
        simp only [Option.some.injEq] at hc
        subst hc
        have hs := src_slots hy
        have h1 : addrOf g' x = some (rd, .adr s k off) := addrOf_local hx (hg.mono fun z hz => by simp [hz])
        have h2 : src g' y = src g y := src_congr (hg.mono (by rw [← hs]; intro z hz; simp only [slots, List.mem_singleton] at hz; simp [hz]))
        have h3 : boxAt g' s k = boxAt g s k := boxAt_congr (hg s (List.mem_cons_of_mem _ (addrOf_adr hx)))
        rw [h1, h2, hy]
        simp only [h3, hb, if_pos hq]
      · cases hc
    · cases hc
  · cases hc
theorem opE_local {V : Env} {g g' : Lk} {tk : Bool} {o : Oper} {orc r : List Or} {e : EffX} (h : opE V g tk o orc = some (e, r)) (hg : Agree g g' e.rd) : opE V g' tk o orc = some (e, r) := by
  unfold opE at h ⊢
  split at h
  · rename_i f xs hco
    split at h
    · split at h
      · rename_i e' hce
        injection h with h; injection h with h h2; subst h; subst h2
        simp only [callE_local hce hg]
      · cases h
    · split at h
      · rename_i e' hce
        injection h with h; injection h with h h2; subst h; subst h2
        simp only [callR_local hce hg]
      · cases h
    · cases h
  rename_i hco
  split at h
  · rename_i r0 m xs hio
    split at h
    · split at h
      · rename_i e' hce
        injection h with h; injection h with h h2; subst h; subst h2
        simp only [invE_local hce hg]
      · cases h
    · cases h
  rename_i hio
  split at h
  · rename_i b t x y r0 hso
    cases hds : o.dst.isSome with
    | true => rw [hds] at h; cases h
    | false =>
      rw [hds] at h
      simp only [cond_false] at h
      split at h
      · split at h
        · rename_i e' hce
          injection h with h; injection h with h h2; subst h; subst h2
          simp only [cond_false, storeX_local hce hg]
        · cases h
      · split at h
        · rename_i e' hce
          injection h with h; injection h with h h2; subst h; subst h2
          simp only [cond_false, store_local hce hg]
        · cases h
  · rename_i hso
    cases hst : (isStore o.op && o.dst.isSome) with
    | true => rw [hst] at h; simp at h
    | false =>
      rw [hst] at h
      simp only [cond_false] at h
      split at h
      · rename_i e' r' hce
        injection h with h; injection h with h h2; subst h; subst h2
        simp only [cond_false, coreE_local hce hg]
      · cases h
theorem stepE_local {V : Env} {all : List Oper} {g g' : Lk} {o : Oper} {orc r : List Or} {e : EffX} (h : stepE V all g o orc = some (e, r)) (hg : Agree g g' e.rd) : stepE V all g' o orc = some (e, r) := by
  unfold stepE at h ⊢
  cases hd : dstOk V o.dst with
  | false => rw [hd] at h; simp at h
  | true =>
    rw [hd] at h
    simp only [Bool.not_true, cond_false] at h ⊢
    split at h
    · rename_i hgd
      simp only [opE_local h hg]
    · rename_i j want hgd
      split at h
      · rename_i d hdj
        have hux : ∀ l, Agree g g' (d :: l) → undefAt g' d = undefAt g d := by
          intro l hl
          unfold undefAt
          rw [hl d (by simp)]
        cases hu : undefAt g d with
        | true =>
          rw [hu] at h
          simp only [cond_true, Option.some.injEq, Prod.mk.injEq] at h
          obtain ⟨rfl, rfl⟩ := h
          simp only [hux _ hg, hu, cond_true]
        | false =>
        rw [hu] at h
        simp only [cond_false] at h
        split at h
        · rename_i t x r' hb
          have hbc : ∀ l, Agree g g' (d :: l) → boolAt g' d = some t := by
            intro l hl
            unfold boolAt at hb ⊢
            rw [scal_congr (x := .tmp d) (hl.mono (by simp [opSlots]))]
            exact hb
          cases hx : (x == want) with
          | true =>
            rw [hx] at h
            simp only [cond_true] at h
            split at h
            · rename_i e' r2 hop
              injection h with h; injection h with h h2; subst h; subst h2
              simp only [hux _ hg, hu, cond_false, hbc _ hg, hx, cond_true, opE_local hop (hg.mono fun s hs => by simp [hs])]
            · cases h
          | false =>
            rw [hx] at h
            simp only [cond_false, Option.some.injEq, Prod.mk.injEq] at h
            obtain ⟨rfl, rfl⟩ := h
            simp only [hux _ hg, hu, hbc _ hg, hx, cond_false]
        · cases h
      · cases h
end Go.X
