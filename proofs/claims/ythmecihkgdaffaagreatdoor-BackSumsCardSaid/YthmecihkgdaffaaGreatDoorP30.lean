/- Part 30 of the proof of BackSums: Closed calls: a region's oracles, computed. Closed calls: the code of a function, run. Closed calls: a function, run; its contract. Closed calls: known contracts, by what their arguments read as. No conditions but those that each theorem names. -/
import Derived.Test.YthmecihkgdaffaaGreatDoorP29
import Derived.Test.YthmecihkgdaffaaGreatDoorP24
namespace Go.X
open Go
def noN : List Or → Bool
  | [] => true
  | .n :: _ => false
  | _ :: r => noN r
def mvd (mv : List Nat) : Option Tmp → Bool
  | some d => inL mv d
  | none => false
def fC {α : Type} : C → (C → α) → α
  | .d (.v v), k => fV v fun v => k (.d (.v v))
  | .d (.sf sz n f), k => fN sz fun sz => fN n fun n => k (.d (.sf sz n f))
  | .own sz n f, k => fN sz fun sz => fN n fun n => k (.own sz n f)
  | .app sz n f, k => fN sz fun sz => fN n fun n => k (.app sz n f)
  | c, k => k c
theorem fC_eq {α : Type} (c : C) (k : C → α) : fC c k = k c := by
  cases c with
  | d x => cases x <;> simp only [fC, fV_eq, fN_eq]
  | _ => simp only [fC, fN_eq]
def fCs {α : Type} : List C → (List C → α) → α
  | [], k => k []
  | c :: cs, k => fC c fun c => fCs cs fun cs => k (c :: cs)
theorem fCs_eq {α : Type} : ∀ (cs : List C) (k : List C → α), fCs cs k = k cs
  | [], _ => rfl
  | c :: cs, k => by simp only [fCs, fC_eq, fCs_eq cs]
def fR {α : Type} : S → (S → α) → α
  | .one ag cs, k => fB ag fun ag => fCs cs fun cs => k (.one ag cs)
  | .box t cs, k => fN t fun t => fCs cs fun cs => k (.box t cs)
  | .ifc t ag cs, k => fN t fun t => fB ag fun ag => fCs cs fun cs => k (.ifc t ag cs)
  | .itr s p, k => fL (sb s) fun l => fN p fun p => k (.itr (ofB l) p)
  | x, k => k x
theorem fR_eq {α : Type} (x : S) (k : S → α) : fR x k = k x := by
  cases x <;> simp only [fR, fB_eq, fN_eq, fCs_eq, fL_eq, ofB_sb]
/-- the state's functions, in the form that the kernel likes best -/
noncomputable def getR (st : St) (s : Nat) : Option (Nat × S) := List.rec (motive := fun _ => Option (Nat × S)) none (fun p _ ih => Bool.rec ih (some p.2) (Nat.beq p.1 s)) st
theorem getR_eq (st : St) : getR st = stGet st := by
  funext s
  induction st with
  | nil => rfl
  | cons p r ih =>
    obtain ⟨t, k, x⟩ := p
    show Bool.rec (getR r s) (some (k, x)) (Nat.beq t s) = stGet ((t, k, x) :: r) s
    rw [ih, stGet]
    cases Nat.beq t s <;> rfl
noncomputable def putR (s : Nat) (x : S) (st : St) : St := List.rec (motive := fun _ => St) [(s, 0, x)] (fun p r ih => Bool.rec (p :: ih) (fN (p.2.1 + 1) fun k => (p.1, k, x) :: r) (Nat.beq p.1 s)) st
theorem putR_eq (st : St) (s : Nat) (x : S) : putR s x st = stPut st s x := by
  induction st with
  | nil => rfl
  | cons p r ih =>
    obtain ⟨t, k, y⟩ := p
    show Bool.rec ((t, k, y) :: putR s x r) (fN (k + 1) fun k => (t, k, x) :: r) (Nat.beq t s) = stPut ((t, k, y) :: r) s x
    rw [ih, fN_eq, stPut]
    cases Nat.beq t s <;> rfl
noncomputable def modR (s : Nat) (x : S) (st : St) : St := List.rec (motive := fun _ => St) [] (fun p r ih => Bool.rec (p :: ih) ((p.1, p.2.1, x) :: r) (Nat.beq p.1 s)) st
theorem modR_eq (st : St) (s : Nat) (x : S) : modR s x st = stMod st s x := by
  induction st with
  | nil => rfl
  | cons p r ih =>
    obtain ⟨t, k, y⟩ := p
    show Bool.rec ((t, k, y) :: modR s x r) ((t, k, x) :: r) (Nat.beq t s) = stMod ((t, k, y) :: r) s x
    rw [ih, stMod]
    cases Nat.beq t s <;> rfl
noncomputable def modsR (l : List (Nat × S)) : St → St := List.rec (motive := fun _ => St → St) (fun st => st) (fun p _ ih st => ih (modR p.1 p.2 st)) l
theorem modsR_eq (l : List (Nat × S)) (st : St) : modsR l st = mods st l := by
  induction l generalizing st with
  | nil => rfl
  | cons p r ih =>
    show modsR r (modR p.1 p.2 st) = mods st (p :: r)
    rw [ih, modR_eq]; rfl
noncomputable def putsR (l : List (Nat × S)) : St → St := List.rec (motive := fun _ => St → St) (fun st => st) (fun p _ ih st => ih (putR p.1 p.2 st)) l
theorem putsR_eq (l : List (Nat × S)) (st : St) : putsR l st = puts st l := by
  induction l generalizing st with
  | nil => rfl
  | cons p r ih =>
    show putsR r (putR p.1 p.2 st) = puts st (p :: r)
    rw [ih, putR_eq]; rfl
noncomputable def appR (st : St) (e : EffX) (d : Option Tmp) : St := Option.rec (motive := fun _ => St) (putsR e.pt (modsR e.md st)) (fun d => putR d e.res (putsR e.pt (modsR e.md st))) d
theorem appR_eq (st : St) (e : EffX) (d : Option Tmp) : appR st e d = applyE st e d := by
  cases d with
  | none => show putsR e.pt (modsR e.md st) = _; rw [putsR_eq, modsR_eq]; rfl
  | some d => show putR d e.res (putsR e.pt (modsR e.md st)) = _; rw [putR_eq, putsR_eq, modsR_eq]; rfl
theorem x_pre {e : Eff} {b : Bool} (h : e.pre) : (e.x b).pre.h := by
  cases b with
  | true => trivial
  | false => exact h
def exE (tr : Bool) (e : Option Eff) (b : Bool) : Option EffX := match e with
  | some e => bif b then some (e.x tr) else none
  | none => none
def notU : UnOp → Bool
  | .not => true
  | _ => false
def lmm : Builtin → Bool
  | .len => true
  | .min => true
  | .max => true
  | _ => false
def appB (T : Tab) (g : Lk) (b : Builtin) (ts : List TypeId) (xs : List Operand) : Bool := match b with
  | .append => match xs, ts with
    | [x, y], [t, _] => appendEB T g t x y
    | _, _ => true
  | _ => true
/-- an operation, looked at once -/
def coreA (T : Tab) (g : Lk) (tk : Bool) (o : Op) : Option EffX :=
  match o with
  | .move x => exE true (moveE g tk x) true
  | .load t a => exE true (loadE T g tk t a) true
  | .binOp op t x y _ => exE (isCmp op) (binE T g op t x y) (binEB g op x y)
  | .store t a x => exE true (storeE T g t a x) true
  | .nilCheck x => exE true (nilCheckE g x) true
  | .fieldAddr t x i => exE true (fieldAddrE T g t x i) true
  | .indexAddr t x i => exE false (indexAddrE T g t x i) (indexAddrEB T g t x i)
  | .pick c a b => exE false (pickE g c a b) (pickEB g c a b)
  | .alloc t => exE true (allocE T t) true
  | .box t x => exE true (boxE T g t x) true
  | .build t ps => exE true (buildE T g t ps.toList) true
  | .buildSlice t n ps => exE true (bif tk && (Nat.beq n 0 && ps.toList.isEmpty) then emptyE T t else buildSliceE T g t n ps.toList) true
  | .unOp op _ x => exE (notU op) (unE g op x) (unEB g op x)
  | .convert s d x => exE false (convE T g s d x) (convEB T g d x)
  | .makeSlice t l c => exE false (makeSliceE T g t l c) (makeSliceEB T g t l c)
  | .slice t x lo hi none => exE false (sliceE T g t x lo hi) (sliceEB T g t x lo hi)
  | .index t x i => exE false (indexE T g t x i) (indexEB T g t x i)
  | .extract x i => exE true (extractE g x i) true
  | .makeInterface t x => exE false (makeIfcE T g t x) true
  | .range t x => exE false (rangeE T g t x) true
  | .next x str => exE false (nextE g x str) true
  | .call { callee := .builtin b, args, argTypes } => exE (lmm b) (builtinE T g b argTypes.toList args.toList) (appB T g b argTypes.toList args.toList)
  | _ => none
theorem coreA_eq (T : Tab) (g : Lk) (tk : Bool) (o : Op) (ha : ∀ x, o ≠ .assign x) : coreA T g tk o = exE (trivOp o) (core T g tk o) (preB T g o) := by
  cases o with
  | assign x => exact absurd rfl (ha x)
  | unOp op t x => cases op <;> rfl
  | slice t x lo hi mx => cases mx <;> rfl
  | call c =>
    obtain ⟨callee, args, ts⟩ := c
    cases callee with
    | builtin b => cases b <;> rfl
    | value f => rfl
    | invoke r m => rfl
  | _ => rfl
def opF (C : FuncId → List S → Option (List S × S)) (V : Env) (g : Lk) (tk : Bool) (o : Oper) (mv : List Nat) : Option (EffX × List Or) :=
  match o.op with
  | .call { callee := .value (.func f), args := xs, .. } => argsA g xs.toList fun es => match C f es with
    | some (os, res) => bif es.any (fun e => !plainS e) && backsB g xs.toList es os then (match callR V.K g f xs.toList es os res with
        | some e => some (e, [.k es os res])
        | none => none)
      else match callE V.K g f xs.toList es os res with
      | some e => some (e, [.c es os res])
      | none => none
    | none => none
  | .call { callee := .invoke r m, args := xs, .. } => match ifcOf g r with
    | some (_, t, ag, cs) => match V.M t m with
      | some f => nS (.one ag cs) fun e0 => argsA g xs.toList fun es => match C f (e0 :: es) with
        | some (os, res) => match invE V g r m xs.toList (e0 :: es) os res with
          | some e => some (e, [.c (e0 :: es) os res])
          | none => none
        | none => none
      | none => none
    | none => none
  | .assign x => match bif mvd mv o.dst then assignMoveE g x else none with
    | some e => some (e.x true, [.m true])
    | none => match assignE g x with
      | some e => some (e.x true, [.m false])
      | none => none
  | .store t a x => bif o.dst.isSome then none else match storeE V.T g t a x with
    | some e => some (e.x true, [.s false])
    | none => match storeX V.T g t a x with
      | some e => some (e, [.s true])
      | none => none
  | op => match coreA V.T g tk op with
    | some e => some (e, [])
    | none => none
theorem opF_core {V : Env} {g : Lk} {tk : Bool} {o : Oper} {e : EffX} {used r : List Or} (hr : noN r = true) (h1 : ∀ x, o.op ≠ .assign x) (h2 : callOf o.op = none) (h3 : invOf o.op = none) (h4 : storeOf o.op r = none) (h5 : isStore o.op = false)
    (h : (match coreA V.T g tk o.op with
      | some e => some (e, ([] : List Or))
      | none => none) = some (e, used)) : opE V g tk o (used ++ r) = some (e, r) ∧ e.pre.h ∧ noN (used ++ r) = true := by
  rw [coreA_eq _ _ _ _ h1] at h
  unfold exE at h
  cases hc : core V.T g tk o.op with
  | none => rw [hc] at h; cases h
  | some e' =>
    rw [hc] at h
    simp only at h
    cases hb : preB V.T g o.op with
    | false => rw [hb] at h; cases h
    | true =>
      rw [hb] at h
      simp only [cond_true, Option.some.injEq, Prod.mk.injEq] at h
      obtain ⟨rfl, rfl⟩ := h
      refine ⟨?_, x_pre (preB_ok hc hb), hr⟩
      have key : coreE V.T g tk o r = some (e', r) := by
        unfold coreE
        split
        · rename_i x r' ho; exact absurd ho (h1 x)
        · rename_i x r' ho; exact absurd ho (h1 x)
        · simp [noN] at hr
        · rw [hc]
      simp only [List.nil_append, opE, h2, h3, h4, h5, Bool.false_and, cond_false, key]
theorem opF_ok {C : FuncId → List S → Option (List S × S)} {V : Env} (hC : ∀ f es os res, C f es = some (os, res) → V.K f es os res) {g : Lk} {tk : Bool} {o : Oper} {mv : List Nat} {e : EffX} {used r : List Or} (hr : noN r = true)
    (h : opF C V g tk o mv = some (e, used)) : opE V g tk o (used ++ r) = some (e, r) ∧ e.pre.h ∧ noN (used ++ r) = true := by
  unfold opF at h
  split at h
  · rename_i f xs ts ho
    obtain ⟨es, h, ha⟩ := argsA_ok h
    split at h
    · rename_i os res hcc
      have hc : callOf o.op = some (f, xs) := by rw [ho]; rfl
      cases hb : (es.any (fun e => !plainS e) && backsB g xs.toList es os) with
      | true =>
        rw [hb] at h
        simp only [cond_true] at h
        simp only [Bool.and_eq_true] at hb
        split at h
        · rename_i e' he
          simp only [Option.some.injEq, Prod.mk.injEq] at h
          obtain ⟨rfl, rfl⟩ := h
          refine ⟨by simp only [opE, hc, List.cons_append, List.nil_append, he], ?_, hr⟩
          unfold callR at he
          split at he
          · rename_i r1 p1 r2 q h1 h2
            obtain ⟨l, p0⟩ := q
            simp only [cond_eq_ite] at he
            split at he
            · simp only [Option.some.injEq] at he
              subst he
              exact ⟨argsR_h h1 h2 (ha h2) hb.2, hC _ _ _ _ hcc⟩
            · cases he
          · cases he
        · cases h
      | false =>
        rw [hb] at h
        simp only [cond_false] at h
        split at h
        · rename_i e' he
          simp only [Option.some.injEq, Prod.mk.injEq] at h
          obtain ⟨rfl, rfl⟩ := h
          refine ⟨by simp only [opE, hc, List.cons_append, List.nil_append, he], ?_, hr⟩
          unfold callE at he
          split at he
          · rename_i r1 l1 p1 hargs
            simp only [cond_eq_ite] at he
            split at he
            · simp only [Option.some.injEq] at he
              subst he
              exact ⟨ha hargs, hC _ _ _ _ hcc⟩
            · cases he
          · cases he
        · cases h
    · cases h
  · rename_i r0 m xs ts ho
    have h2 : callOf o.op = none := by rw [ho]; rfl
    have h3 : invOf o.op = some (r0, m, xs) := by rw [ho]; rfl
    split at h
    · rename_i rd t ag cs hi
      split at h
      · rename_i f hm
        obtain ⟨e0, h, p, hp1, hp2⟩ := nS_ok h
        obtain ⟨es, h, ha⟩ := argsA_ok h
        split at h
        · rename_i os res hcc
          split at h
          · rename_i e' he
            simp only [Option.some.injEq, Prod.mk.injEq] at h
            obtain ⟨rfl, rfl⟩ := h
            refine ⟨by simp only [opE, h2, h3, List.cons_append, List.nil_append, he], ?_, hr⟩
            unfold invE at he
            split at he
            · rename_i rd' t' ag' cs' e1 es1 o1 os1 hi' hes h9
              rw [hi] at hi'
              simp only [Option.some.injEq, Prod.mk.injEq] at hi'
              obtain ⟨_, rfl, rfl, rfl⟩ := hi'
              simp only [List.cons.injEq] at hes
              obtain ⟨rfl, rfl⟩ := hes
              split at he
              · rename_i f' p' r' l q hm' hcv hargs
                rw [hm] at hm'
                injection hm' with hm'; subst hm'
                rw [hp1] at hcv
                injection hcv with hcv; subst hcv
                simp only [cond_eq_ite] at he
                split at he
                · simp only [Option.some.injEq] at he
                  subst he
                  exact ⟨⟨hp2, ha hargs⟩, hC _ _ _ _ hcc⟩
                · cases he
              · cases he
            · cases he
          · cases h
        · cases h
      · cases h
    · cases h
  · rename_i x ho
    have h2 : callOf o.op = none := by rw [ho]; rfl
    have h3 : invOf o.op = none := by rw [ho]; rfl
    have h5 : isStore o.op = false := by rw [ho]; rfl
    have h4 : ∀ l, storeOf o.op l = none := fun l => by rw [ho]; rfl
    have h6 : trivOp o.op = true := by rw [ho]; rfl
    split at h
    · rename_i e' he
      have he : assignMoveE g x = some e' := by
        revert he
        cases mvd mv o.dst with
        | true => exact id
        | false => exact fun h => by cases h
      simp only [Option.some.injEq, Prod.mk.injEq] at h
      obtain ⟨rfl, rfl⟩ := h
      refine ⟨?_, x_pre (assignMove_pre he), hr⟩
      have hce : coreE V.T g tk o (.m true :: r) = some (e', r) := by simp only [coreE, ho, he]
      simp only [opE, h2, h3, h4, h5, h6, Bool.false_and, cond_false, List.cons_append, List.nil_append, hce]
    · split at h
      · rename_i e' he
        simp only [Option.some.injEq, Prod.mk.injEq] at h
        obtain ⟨rfl, rfl⟩ := h
        refine ⟨?_, ?_, hr⟩
        · have hce : coreE V.T g tk o (.m false :: r) = some (e', r) := by simp only [coreE, ho, he]
          simp only [opE, h2, h3, h4, h5, h6, Bool.false_and, cond_false, List.cons_append, List.nil_append, hce]
        · have : core V.T g tk (.assign x) = some e' := he
          exact x_pre (triv_core this rfl)
      · cases h
  · rename_i t a x ho
    have h2 : callOf o.op = none := by rw [ho]; rfl
    have h3 : invOf o.op = none := by rw [ho]; rfl
    have h4 : ∀ b l, storeOf o.op (.s b :: l) = some (b, t, a, x, l) := fun b l => by rw [ho]; rfl
    cases hd : o.dst.isSome with
    | true => rw [hd] at h; cases h
    | false =>
      rw [hd] at h
      simp only [cond_false] at h
      split at h
      · rename_i e' he
        simp only [Option.some.injEq, Prod.mk.injEq] at h
        obtain ⟨rfl, rfl⟩ := h
        exact ⟨by simp only [opE, h2, h3, h4, hd, cond_false, List.cons_append, List.nil_append, he], trivial, hr⟩
      · split at h
        · rename_i e' he
          simp only [Option.some.injEq, Prod.mk.injEq] at h
          obtain ⟨rfl, rfl⟩ := h
          refine ⟨by simp only [opE, h2, h3, h4, hd, cond_false, List.cons_append, List.nil_append, he], ?_, hr⟩
          unfold storeX at he
          simp only [cond_eq_ite] at he
          repeat' split at he
          all_goals first | (cases he; done) | (simp only [Option.some.injEq] at he; subst he; trivial)
        · cases h
  · rename_i op n1 n2 n3 n4
    have h2 : callOf o.op = none := by
      unfold callOf
      split
      · rename_i f xs ts ho; exact absurd ho (n1 f xs ts)
      · rfl
    have h3 : invOf o.op = none := by
      unfold invOf
      split
      · rename_i f xs m ts ho; exact absurd ho (n2 f xs m ts)
      · rfl
    have h4 : storeOf o.op r = none := by
      unfold storeOf
      split
      · rename_i t a x _ _ ho; exact absurd ho (n4 t a x)
      · rfl
    have h5 : isStore o.op = false := by
      unfold isStore
      split
      · rename_i t a x ho; exact absurd ho (n4 t a x)
      · rfl
    exact opF_core hr n3 h2 h3 h4 h5 h
/-- the slots to which is appended -/
def appT1 (o : Oper) : List Nat := match o.op with
  | .call { callee := .builtin .append, args, .. } => match args.toList with
    | .tmp t :: _ => [t]
    | _ => []
  | _ => []
def appTo : List Oper → List Nat
  | [] => []
  | o :: r => appT1 o ++ appTo r
def tkF (l : List Nat) : Option Tmp → Bool
  | some d => l.any fun t => Nat.beq t d
  | none => false
theorem appT1_eq (d : Nat) (o : Oper) : ((appT1 o).any fun t => Nat.beq t d) = isAppOf d o := by
  unfold appT1 isAppOf
  split
  · rename_i args ts ho
    simp only [ho]
    split
    · rename_i t l hl; simp only [List.any_cons, List.any_nil, Bool.or_false, hl]
    · rename_i hn
      split
      · rename_i t l hl; exact absurd hl (hn t l)
      · rfl
  · rename_i hn
    split
    · rename_i args ts ho; exact absurd ho (hn args ts)
    · rfl
theorem tkF_eq (ops : List Oper) (d : Option Tmp) : tkF (appTo ops) d = tkOf ops d := by
  cases d with
  | none => rfl
  | some d =>
    simp only [tkF, tkOf]
    induction ops with
    | nil => rfl
    | cons o r ih => simp only [appTo, List.any_append, List.any_cons, appT1_eq, ih]
def stepA (C : FuncId → List S → Option (List S × S)) (V : Env) (all : List Oper) (g : Lk) (o : Oper) (mv : List Nat) : Option (EffX × List Or) :=
  bif !dstOk V o.dst then none else
  match o.guard with
  | none => opF C V g (tkF (appTo all) o.dst) o mv
  | some (j, want) => match dstAt all j with
    | some d => bif undefAt g d then some ({ rd := [d], md := [], pt := [], res := .tup [], pre := .t }, []) else match boolAt g d with
      | some t => bif t == want then
          match opF C V g (tkF (appTo all) o.dst) o mv with
          | some (e, u) => some ({ e with rd := d :: e.rd, pre := .c (.a (t = t)) e.pre }, .b t :: u)
          | none => none
        else some ({ rd := [d], md := [], pt := [], res := .tup [], pre := .a (t = t) }, [.b t])
      | none => none
    | none => none
theorem stepA_ok {C : FuncId → List S → Option (List S × S)} {V : Env} (hC : ∀ f es os res, C f es = some (os, res) → V.K f es os res) {all : List Oper} {g : Lk} {o : Oper} {mv : List Nat} {e : EffX} {used r : List Or} (hr : noN r = true)
    (h : stepA C V all g o mv = some (e, used)) : stepE V all g o (used ++ r) = some (e, r) ∧ e.pre.h ∧ noN (used ++ r) = true := by
  unfold stepA at h
  simp only [tkF_eq] at h
  unfold stepE
  cases hd : dstOk V o.dst with
  | false => rw [hd] at h; simp at h
  | true =>
  rw [hd] at h
  simp only [Bool.not_true, cond_false] at h ⊢
  split at h
  · rename_i hg
    rw [hg]
    exact opF_ok hC hr h
  · rename_i j want hg
    rw [hg]
    simp only
    split at h
    · rename_i d hda
      rw [hda]
      simp only
      cases hu : undefAt g d with
      | true =>
        rw [hu] at h
        simp only [cond_true, Option.some.injEq, Prod.mk.injEq] at h ⊢
        obtain ⟨rfl, rfl⟩ := h
        exact ⟨⟨rfl, rfl⟩, trivial, hr⟩
      | false =>
        rw [hu] at h
        simp only [cond_false] at h ⊢
        split at h
        · rename_i t hb
          rw [hb]
          cases hw : (t == want) with
          | true =>
            rw [hw] at h
            simp only [cond_true] at h
            split at h
            · rename_i e' u he
              obtain ⟨h1, h2, h3⟩ := opF_ok hC hr he
              simp only [Option.some.injEq, Prod.mk.injEq] at h
              obtain ⟨rfl, rfl⟩ := h
              refine ⟨?_, ⟨trivial, h2⟩, h3⟩
              simp only [List.cons_append, hw, cond_true, h1]
            · cases h
          | false =>
            rw [hw] at h
            simp only [cond_false, Option.some.injEq, Prod.mk.injEq] at h
            obtain ⟨rfl, rfl⟩ := h
            refine ⟨?_, trivial, hr⟩
            simp only [List.cons_append, List.nil_append, hw, cond_false]
        · cases h
    · cases h
noncomputable def passA (C : FuncId → List S → Option (List S × S)) (V : Env) (all : List Oper) (mv : List Nat) : St → List Oper → Option (List EffX × St × List Or)
  | st, [] => some ([], st, [])
  | st, o :: os => match stepA C V all (getR st) o mv with
    | some (e, u) => fR e.res fun res => match passA C V all mv (appR st { e with res := res } o.dst) os with
      | some (es, st', u') => some (e :: es, st', u ++ u')
      | none => none
    | none => none
theorem passA_ok {C : FuncId → List S → Option (List S × S)} {V : Env} (hC : ∀ f es os res, C f es = some (os, res) → V.K f es os res) {all : List Oper} {mv : List Nat} : ∀ {ops : List Oper} {st st' : St} {es : List EffX} {used : List Or},
    passA C V all mv st ops = some (es, st', used) → passE V all st ops used = some (es, st', []) ∧ (preOf es).h ∧ noN used = true
  | [], st, st', es, used, h => by
    simp only [passA, Option.some.injEq, Prod.mk.injEq] at h
    obtain ⟨rfl, rfl, rfl⟩ := h
    exact ⟨rfl, trivial, rfl⟩
  | o :: os, st, st', es, used, h => by
    simp only [passA, getR_eq] at h
    split at h
    · rename_i e u h1
      simp only [fR_eq, appR_eq] at h
      split at h
      · rename_i es' st2 u' h2
        simp only [Option.some.injEq, Prod.mk.injEq] at h
        obtain ⟨rfl, rfl, rfl⟩ := h
        obtain ⟨p1, p2, p3⟩ := passA_ok hC h2
        obtain ⟨q1, q2, q3⟩ := stepA_ok hC p3 h1
        exact ⟨by simp only [passE, q1, p1], ⟨q2, p2⟩, q3⟩
      · cases h
    · cases h
end Go.X
namespace Go.X
open Go
/-- of a region: what is frozen ahead of it, what an assignment takes over, ranks of a drawn order -/
structure Hint where
  fz : List Nat := []
  mv : List Nat := []
  gk : List Nat := []
def frzs : St → List Nat → Option St
  | st, [] => some st
  | st, s :: r => match frzE (stGet st) s with
    | some m => frzs (mods st [m]) r
    | none => none
theorem frzs_ok {cx : Cx} : ∀ {l : List Nat} {st st' : St}, frzs st l = some st' → ∀ {a : Act} {w : World}, Sim cx (stGet st) a w → Sim cx (stGet st') a w
  | [], st, st', h, a, w, hs => by simp only [frzs, Option.some.injEq] at h; subst h; exact hs
  | s :: r, st, st', h, a, w, hs => by
    simp only [frzs] at h
    split at h
    · rename_i m hm
      exact frzs_ok h (by rw [stGet_mods]; exact hs.freeze hm)
    · cases h
def opTs (o : Oper) : List Nat := o.op.operands.toList.filterMap fun x => match x with
  | .tmp t => some t
  | _ => none
/-- mutable slices that a region speaks of -/
def ownSl (ops : List Oper) : St → List Nat
  | [] => []
  | (s, _, x) :: r => match x with
    | .one _ cs => bif cs.any C.isOwn && ops.any fun o => (opTs o).any fun t => Nat.beq s t then s :: ownSl ops r else ownSl ops r
    | .box _ cs => bif cs.any C.isOwn && ops.any fun o => (opTs o).any fun t => Nat.beq s t then s :: ownSl ops r else ownSl ops r
    | _ => ownSl ops r
def gkStep (ops : List Oper) (r : List Nat) : List Nat := ops.map fun o => o.after.toList.foldl (fun m e => bif Region.binds .gc e then max m (r.getD e.on 0 + 1) else m) 0
def gkGo (ops : List Oper) : List Oper → List Nat → List Nat
  | [], r => r
  | _ :: l, r => fL (gkStep ops r) fun r => gkGo ops l r
def gkOf (ops : List Oper) : List Nat := bif rankE [] ops.length 0 ops then [] else gkGo ops ops (ops.map fun _ => 0)
/-- results, frozen -/
def fzS : S → S
  | .one ag cs => .one ag (cs.map fzC)
  | .tup xs => .tup (xs.map fun p => (p.1, p.2.map fzC))
  | x => x
theorem TupTells.frozen {h : Hp} {w : World} : ∀ {xs : List (Bool × List C)} {vs : List Value} {bs : List Nat}, h.holds w → TupTells h w xs vs bs → bs.Nodup →
    ∃ k : Hp, h.le k ∧ k.holds w ∧ k.g = h.g ∧ (∀ b, b ∉ bs → ∀ i, k.c b i = h.c b i) ∧ TupTells k w (xs.map fun p => (p.1, p.2.map fzC)) vs []
  | [], _, _, hh, ⟨rfl, rfl⟩, _ => ⟨h, Hp.le.refl h, hh, rfl, fun _ _ _ => rfl, rfl, rfl⟩
  | (ag, cs) :: xs, _, _, hh, ⟨v, vs', b1, b2, rfl, rfl, h1, h2⟩, hn => by
    have nd := List.nodup_append.1 hn
    have one : ∃ k : Hp, h.le k ∧ k.holds w ∧ k.g = h.g ∧ (∀ b, b ∉ b1 → ∀ i, k.c b i = h.c b i) ∧ ((cs.map fzC = [] ∧ ([] : List Nat) = []) ∨ CompTells k w ag (cs.map fzC) v []) := by
      rcases h1 with ⟨rfl, rfl⟩ | ⟨us, o, e1, e2⟩
      · exact ⟨h, Hp.le.refl h, hh, rfl, fun _ _ _ => rfl, .inl ⟨rfl, rfl⟩⟩
      · obtain ⟨k, a1, a2, a3, a4, a5⟩ := freezeCs hh o nd.1
        exact ⟨k, a1, a2, a3, a4, .inr ⟨us, a5, e1, fun e => by rw [List.length_map]; exact e2 e⟩⟩
    obtain ⟨k, a1, a2, a3, a4, a5⟩ := one
    have hs : Still h k w w b2 := ⟨fun _ _ => rfl, fun b hb i => a4 b (fun hc => nd.2.2 b hc b hb rfl) i, fun _ _ => by rw [a3]⟩
    obtain ⟨k2, c1, c2, c3, c4, c5⟩ := TupTells.frozen a2 (h2.keep a1 hs) nd.2.1
    refine ⟨k2, a1.trans c1, c2, c3.trans a3, fun b hb i => ?_, v, vs', [], [], rfl, rfl, ?_, c5⟩
    · rw [c4 b (fun hc => hb (List.mem_append.2 (.inr hc))) i, a4 b (fun hc => hb (List.mem_append.2 (.inl hc))) i]
    · exact a5.imp id fun h => h.keep c1 ⟨fun _ _ => rfl, fun b hb => (by cases hb), fun b hb => (by cases hb)⟩
theorem fzS_ok {P : Program} {f : FuncId} {args outs : List S} {res : S} (hd : Den P f args outs res) : Den P f args outs (fzS res) := by
  cases res with
  | one ag cs => exact hd.frozen
  | tup xs =>
    intro h w vs bs h1 h2 h3 h4
    refine (hd h w vs bs h1 h2 h3 h4).mono fun v w' ⟨k, bo, br, R⟩ => ?_
    obtain ⟨us, hv, ht⟩ := R.res
    have nd := List.nodup_append.1 R.nodup
    obtain ⟨k', e1, e2, e3, e4, e5⟩ := ht.frozen R.holds nd.2.1
    refine ⟨k', bo, [], R.le.trans e1, fun b hb hn i => ?_, fun b hb => by rw [e3]; exact R.newg b hb, e2, R.fr, R.outs.keep e1 ⟨fun _ _ => rfl, fun b hb i => e4 b (fun hc => nd.2.2 b hb b hc rfl) i, fun b _ => by rw [e3]⟩, ⟨us, hv, e5⟩, by rw [List.append_nil]; exact nd.1, fun b hb => R.mine b (by rw [List.append_nil] at hb; simp [hb])⟩
    rw [e4 b (fun hc => ?_) i]
    · exact R.newc b hb hn i
    · rcases (R.mine b (by simp [hc])).1 with h | h
      · omega
      · exact hn h
  | _ => exact hd
def frzC (C : FuncId → List S → Option (List S × S)) (f : FuncId) (es : List S) : Option (List S × S) :=
  match C f es with
  | some (os, res) => some (os, fzS res)
  | none => none
noncomputable def regT (C : FuncId → List S → Option (List S × S)) (V : Env) (ops : List Oper) (mv : List Nat) (draw : Bool) (st : St) (k : Option (List EffX × St × St)) : Option (List EffX × St × St) :=
  match passA C V ops mv st ops with
  | some (es, st1, _) => bif !draw || chkS (getR st) ops es (gkOf ops) then some (es, st, st1) else k
  | none => k
/-- a region: as it stands, or with what it speaks of frozen -/
noncomputable def regA (C : FuncId → List S → Option (List S × S)) (V : Env) (ops : List Oper) (h : Hint) (draw : Bool) (st : St) : Option (List EffX × St × St) :=
  match frzs st h.fz with
  | some st0 => regT C V ops h.mv draw st0 <| regT (frzC C) V ops h.mv draw st0 <| match ownSl ops st0 with
    | [] => none
    | l => match frzs st0 l with
      | some st2 => regT C V ops h.mv draw st2 <| regT (frzC C) V ops h.mv draw st2 none
      | none => none
  | none => none
theorem frzC_ok {P : Program} {C : FuncId → List S → Option (List S × S)} (hC : ∀ f es os res, C f es = some (os, res) → Den P f es os res) : ∀ f es os res, frzC C f es = some (os, res) → Den P f es os res := by
  intro f es os res h
  unfold frzC at h
  split at h
  · rename_i os' res' hc
    simp only [Option.some.injEq, Prod.mk.injEq] at h
    obtain ⟨rfl, rfl⟩ := h
    exact fzS_ok (hC _ _ _ _ hc)
  · cases h
theorem regT_ok {C : FuncId → List S → Option (List S × S)} {V : Env} {ops : List Oper} {mv : List Nat} {draw : Bool} {st st0 st1 : St} {es : List EffX} {k : Option (List EffX × St × St)} (hr : regT C V ops mv draw st k = some (es, st0, st1)) :
    (st0 = st ∧ (∃ u, passA C V ops mv st ops = some (es, st1, u)) ∧ (!draw || chkS (stGet st) ops es (gkOf ops)) = true) ∨ k = some (es, st0, st1) := by
  unfold regT at hr
  simp only [cond_eq_ite, getR_eq] at hr
  split at hr
  · rename_i es' st' u h1
    split at hr
    · rename_i hc
      simp only [Option.some.injEq, Prod.mk.injEq] at hr
      obtain ⟨rfl, rfl, rfl⟩ := hr
      exact .inl ⟨rfl, ⟨u, h1⟩, hc⟩
    · exact .inr hr
  · exact .inr hr
/-- what a region does -/
theorem regA_ok {C : FuncId → List S → Option (List S × S)} {V : Env} {P : Program} (hK : V.K = Den P) (hC : ∀ f es os res, C f es = some (os, res) → Den P f es os res) {ops : List Oper} {h : Hint} {draw : Bool} {st st0 st1 : St} {es : List EffX} (hr : regA C V ops h draw st = some (es, st0, st1)) :
    (∀ {cx : Cx} {a : Act} {w : World}, Sim cx (stGet st) a w → Sim cx (stGet st0) a w) ∧ ∃ C' u, (∀ f es os res, C' f es = some (os, res) → V.K f es os res) ∧ passA C' V ops h.mv st0 ops = some (es, st1, u) ∧ (!draw || chkS (stGet st0) ops es (gkOf ops)) = true := by
  have h1 : ∀ f es os res, C f es = some (os, res) → V.K f es os res := by rw [hK]; exact hC
  have h2 : ∀ f es os res, frzC C f es = some (os, res) → V.K f es os res := by rw [hK]; exact frzC_ok hC
  unfold regA at hr
  split at hr
  · rename_i st0' h0
    rcases regT_ok hr with ⟨rfl, ⟨u, h3⟩, h4⟩ | hr
    · exact ⟨fun hs => frzs_ok h0 hs, C, u, h1, h3, h4⟩
    rcases regT_ok hr with ⟨rfl, ⟨u, h3⟩, h4⟩ | hr
    · exact ⟨fun hs => frzs_ok h0 hs, frzC C, u, h2, h3, h4⟩
    split at hr
    · cases hr
    · split at hr
      · rename_i st2 h5
        rcases regT_ok hr with ⟨rfl, ⟨u, h3⟩, h4⟩ | hr
        · exact ⟨fun hs => frzs_ok h5 (frzs_ok h0 hs), C, u, h1, h3, h4⟩
        rcases regT_ok hr with ⟨rfl, ⟨u, h3⟩, h4⟩ | hr
        · exact ⟨fun hs => frzs_ok h5 (frzs_ok h0 hs), frzC C, u, h2, h3, h4⟩
        · cases hr
      · cases hr
  · cases hr
/-- a state in normal form, at a loop's round -/
def rootOk (g : Lk) (r : Root) : Bool :=
  match g r.s with
  | some (k, .one ..) => Nat.beq k r.k
  | some (k, .box ..) => Nat.beq k r.k
  | some (k, .bld ..) => Nat.beq k r.k
  | _ => false
def nL {β : Type} (g : Lk) : St → (List (Nat × S) → Option β) → Option β
  | [], k => k []
  | (s, _, _) :: r, k => match g s with
    | some (_, .one ag cs) => nS (.one ag cs) fun y => nL g r fun l => k ((s, y) :: l)
    | some (_, .box t cs) => nS (.box t cs) fun y => nL g r fun l => k ((s, y) :: l)
    | some (_, .itr s' p) => nS (.itr s' p) fun y => nL g r fun l => k ((s, y) :: l)
    | some (_, .bld t e c) => nS (.bld t e c) fun y => nL g r fun l => k ((s, y) :: l)
    | some (_, .ref q) => bif rootOk g q then nL g r fun l => k ((s, .ref ⟨q.s, 0, q.c⟩) :: l) else nL g r k
    | some (_, .adr q v o) => bif rootOk g ⟨q, v, none⟩ then nL g r fun l => k ((s, .adr q 0 o) :: l) else nL g r k
    | some (_, .elt q j o) => bif rootOk g q then nL g r fun l => k ((s, .elt ⟨q.s, 0, q.c⟩ j o) :: l) else nL g r k
    | _ => nL g r k
inductive Rel : S → S → Prop
  | cv {x y : S} (h : Cv x y) (hx : match x with | .ref _ | .adr .. | .elt .. => False | _ => True) : Rel x y
  | ref (q : Root) : Rel (.ref q) (.ref ⟨q.s, 0, q.c⟩)
  | adr (q v o : Nat) : Rel (.adr q v o) (.adr q 0 o)
  | elt (q : Root) (j o : Nat) : Rel (.elt q j o) (.elt ⟨q.s, 0, q.c⟩ j o)
theorem nL_ok {β : Type} {g : Lk} : ∀ {st : St} {k : List (Nat × S) → Option β} {r : β}, nL g st k = some r → ∃ l, k l = some r ∧ ∀ p ∈ l, ∃ v x, g p.1 = some (v, x) ∧ Rel x p.2
  | [], k, r, h => ⟨[], h, fun p hp => by cases hp⟩
  | (s, v, x) :: st, k, r, h => by
    have one : ∀ {y : S} {v : Nat} {x : S}, g s = some (v, x) → Rel x y → ∀ {r : β}, nL g st (fun l => k ((s, y) :: l)) = some r → ∃ l, k l = some r ∧ ∀ p ∈ l, ∃ v x, g p.1 = some (v, x) ∧ Rel x p.2 := by
      intro y v x hg hR r h
      obtain ⟨l, h1, h2⟩ := nL_ok h
      refine ⟨_, h1, fun p hp => ?_⟩
      rcases List.mem_cons.1 hp with rfl | hp
      · exact ⟨v, x, hg, hR⟩
      · exact h2 p hp
    simp only [nL, cond_eq_ite] at h
    split at h
    · rename_i hg
      obtain ⟨y, h1, h2⟩ := nS_ok h
      exact one hg (.cv h2 trivial) h1
    · rename_i hg
      obtain ⟨y, h1, h2⟩ := nS_ok h
      exact one hg (.cv h2 trivial) h1
    · rename_i hg
      obtain ⟨y, h1, h2⟩ := nS_ok h
      exact one hg (.cv h2 trivial) h1
    · rename_i hg
      obtain ⟨y, h1, h2⟩ := nS_ok h
      exact one hg (.cv h2 trivial) h1
    · rename_i q hg
      split at h
      · exact one hg (.ref q) h
      · exact nL_ok h
    · rename_i q v o hg
      split at h
      · exact one hg (.adr q v o) h
      · exact nL_ok h
    · rename_i q j o hg
      split at h
      · exact one hg (.elt q j o) h
      · exact nL_ok h
    · exact nL_ok h
def isSm {α : Type} : Option α → Bool
  | some _ => true
  | none => false
def refsB (g t : Lk) : List (Nat × S) → Bool
  | [] => true
  | (s, y) :: r => (match y with
    | .ref _ | .adr .. | .elt .. => match g s with
      | some (_, x) => isSm (convR g t x y)
      | none => false
    | _ => true) && refsB g t r
theorem cutL_of {g t : Lk} : ∀ {l : List (Nat × S)}, (∀ p ∈ l, ∃ v x, g p.1 = some (v, x) ∧ Rel x p.2) → refsB g t l = true → ∃ p, cutL g t l = some p ∧ p.h
  | [], _, _ => ⟨.t, rfl, trivial⟩
  | (s, y) :: l, h, hb => by
    simp only [refsB, Bool.and_eq_true] at hb
    obtain ⟨q, h1, h2⟩ := cutL_of (fun p hp => h p (List.mem_cons_of_mem _ hp)) hb.2
    obtain ⟨v, x, hg, hR⟩ := h (s, y) (by simp)
    have : ∃ p, convR g t x y = some p ∧ p.h := by
      cases hR with
      | cv hc hx =>
        obtain ⟨p, h3, h4⟩ := hc
        refine ⟨p, ?_, h4⟩
        rw [← h3]
        cases x <;> first | rfl | exact hx.elim
      | ref q =>
        have hb := hb.1
        simp only [hg] at hb
        simp only [convR, cond_eq_ite] at hb ⊢
        split at hb
        · rename_i hc; exact ⟨.t, by rw [if_pos hc], trivial⟩
        · cases hb
      | adr q v o =>
        have hb := hb.1
        simp only [hg] at hb
        simp only [convR, cond_eq_ite] at hb ⊢
        split at hb
        · rename_i hc; exact ⟨.t, by rw [if_pos hc], trivial⟩
        · cases hb
      | elt q j o =>
        have hb := hb.1
        simp only [hg] at hb
        simp only [convR, cond_eq_ite] at hb ⊢
        split at hb
        · rename_i hc; exact ⟨.a (j = j), by simp only [if_pos hc], rfl⟩
        · cases hb
    obtain ⟨p, h3, h4⟩ := this
    exact ⟨.c p q, by simp only [cutL, hg, h3, h1], h4, h2⟩
noncomputable def nSt {β : Type} (st : St) (k : St → Option β) : Option β :=
  nL (getR st) st fun l => bif refsB (getR st) (getR (st0 l)) l then k (st0 l) else none
theorem nSt_ok {β : Type} {st : St} {k : St → Option β} {r : β} (h : nSt st k = some r) : ∃ st', k st' = some r ∧ ∀ {cx : Cx} {a : Act} {w : World}, Sim cx (stGet st) a w → Sim cx (stGet st') a w := by
  unfold nSt at h
  simp only [getR_eq] at h
  obtain ⟨l, h1, h2⟩ := nL_ok h
  simp only [cond_eq_ite] at h1
  split at h1
  · rename_i hb
    obtain ⟨p, h3, h4⟩ := cutL_of h2 hb
    exact ⟨_, h1, fun hs => hs.cut h3 h4⟩
  · cases h1
noncomputable def execA (C : FuncId → List S → Option (List S × S)) (V : Env) (hn : Nat → Hint) : Nat → Code → St → Option (Fin × St)
  | 0, _, _ => none
  | n + 1, c, st => match c with
    | .skip => some (.normal, st)
    | .exit id => some (.exit id, st)
    | .ret => some (.ret, st)
    | .seq a b => match execA C V hn n a st with
      | some (.normal, st1) => execA C V hn n b st1
      | x => x
    | .cond c a b => match condV (getR st) c with
      | some true => execA C V hn n a st
      | some false => execA C V hn n b st
      | none => none
    | .scope c => execA C V hn n c st
    | .label _ => some (.normal, st)
    | .block id c => match execA C V hn n c st with
      | some (.exit j, st1) => some (bif Nat.beq j id then .normal else .exit j, st1)
      | x => x
    | .region id ops draw => match regA C V ops.toList (hn id) draw st with
      | some (_, _, st1) => some (.normal, st1)
      | none => none
    | .loop b => match execA C V hn n b st with
      | some (.normal, st1) => nSt st1 fun st1 => execA C V hn n (.loop b) st1
      | x => x
    | _ => none
theorem execA_ok {C : FuncId → List S → Option (List S × S)} {V : Env} {hn : Nat → Hint} {cx : Cx} {P : Program} (hK : V.K = Den P) (hV : EnvOk cx V) (hC : ∀ f es os res, C f es = some (os, res) → Den P f es os res) : ∀ (n : Nat) {c : Code} {st st' : St} {e : Fin},
    execA C V hn n c st = some (e, st') → Runs cx c (stGet st) e (stGet st') ∧ ∀ b, c = .loop b → LoopRuns cx b (stGet st) e (stGet st') := by
  intro n
  induction n with
  | zero => intro c st st' e h; simp [execA] at h
  | succ n ih =>
    intro c st st' e h
    have run : ∀ {c : Code} {st st' : St} {e : Fin}, execA C V hn n c st = some (e, st') → Runs cx c (stGet st) e (stGet st') := fun h => (ih h).1
    cases c with
    | skip =>
      simp only [execA, Option.some.injEq, Prod.mk.injEq] at h
      obtain ⟨rfl, rfl⟩ := h
      exact ⟨fun Q a w hs hq => wp_skip (hq a w hs), fun b hb => by cases hb⟩
    | exit id =>
      simp only [execA, Option.some.injEq, Prod.mk.injEq] at h
      obtain ⟨rfl, rfl⟩ := h
      exact ⟨fun Q a w hs hq => wp_exit (hq a w hs), fun b hb => by cases hb⟩
    | ret =>
      simp only [execA, Option.some.injEq, Prod.mk.injEq] at h
      obtain ⟨rfl, rfl⟩ := h
      exact ⟨fun Q a w hs hq => wp_ret (hq a w hs), fun b hb => by cases hb⟩
    | seq x y =>
      refine ⟨fun Q a w hs hq => ?_, fun b hb => by cases hb⟩
      simp only [execA] at h
      split at h
      · rename_i st1 h1
        exact wp_seq (run h1 _ a w hs fun a' w' hs' => run h Q a' w' hs' hq)
      · rename_i hne
        refine wp_seq (run h _ a w hs fun a' w' hs' => ?_)
        have := hq a' w' hs'
        cases e with
        | normal => exact absurd h (hne _)
        | exit id => exact this
        | ret => exact this
    | cond c x y =>
      refine ⟨fun Q a w hs hq => ?_, fun b hb => by cases hb⟩
      simp only [execA, getR_eq] at h
      have hv : ∀ t, condV (stGet st) c = some t → a.eval c = .bool t := by
        intro t hc
        obtain ⟨hh, bs, M⟩ := hs
        unfold condV at hc
        split at hc
        · rename_i hx
          injection hc with hc; subst hc
          exact (scal_val M hx).1
        · cases hc
      split at h
      · rename_i hc; exact wp_cond (hv _ hc) (run h Q a w hs hq)
      · rename_i hc; exact wp_cond (hv _ hc) (run h Q a w hs hq)
      · cases h
    | scope x =>
      refine ⟨fun Q a w hs hq => ?_, fun b hb => by cases hb⟩
      simp only [execA] at h
      refine wp_scope_straight (run h _ a w hs fun a' w' hs' => ?_)
      have := hq a' w' hs'
      cases e <;> exact this
    | label l =>
      simp only [execA, Option.some.injEq, Prod.mk.injEq] at h
      obtain ⟨rfl, rfl⟩ := h
      exact ⟨fun Q a w hs hq => wp_label (hq a w hs), fun b hb => by cases hb⟩
    | block id x =>
      refine ⟨fun Q a w hs hq => ?_, fun b hb => by cases hb⟩
      simp only [execA] at h
      refine wp_block ?_
      split at h
      · rename_i j st1 h1
        simp only [Option.some.injEq, Prod.mk.injEq] at h
        obtain ⟨rfl, rfl⟩ := h
        refine run h1 _ a w hs fun a' w' hs' => ?_
        have := hq a' w' hs'
        rw [beq_eq] at this
        by_cases hj : j = id
        · rw [decide_eq_true hj] at this
          simp only [Fin.x, Exit.inBlock, if_pos hj]; exact this
        · rw [decide_eq_false hj] at this
          simp only [Fin.x, Exit.inBlock, if_neg hj]; exact this
      · rename_i hne
        refine run h _ a w hs fun a' w' hs' => ?_
        have := hq a' w' hs'
        cases e with
        | normal => exact this
        | exit id => exact absurd h (hne _ _)
        | ret => exact this
    | region id ops draw =>
      refine ⟨fun Q a w hs hq => ?_, fun b hb => by cases hb⟩
      simp only [execA] at h
      split at h
      · rename_i es0 st0 st1 hreg
        obtain ⟨hf, C', used, hC', hpass, hk⟩ := regA_ok hK hC hreg
        simp only [Option.some.injEq, Prod.mk.injEq] at h
        obtain ⟨rfl, rfl⟩ := h
        obtain ⟨h1, h2, _⟩ := passA_ok hC' hpass
        refine region_run hV (gk := gkOf ops.toList) h1 h2 (fun hd => ?_) (fun a' w' hs' => hq a' w' hs') (hf hs)
        subst hd
        simpa using hk
      · cases h
    | loop x =>
      have key : LoopRuns cx x (stGet st) e (stGet st') := by
        simp only [execA] at h
        split at h
        · rename_i st1 h1
          obtain ⟨st2, h2, h3⟩ := nSt_ok h
          refine .again ?_ ((ih h2).2 x rfl)
          exact fun Q a w hs hq => run h1 Q a w hs fun a' w' hs' => hq a' w' (h3 hs')
        · rename_i hne
          refine .leave (run h) (fun he => ?_)
          subst he
          exact hne _ h
      exact ⟨key.loop, fun b hb => by injection hb with hb; subst hb; exact key⟩
    | _ => simp [execA] at h
end Go.X
namespace Go.X
open Go
def resSlot : ResultVar → Nat
  | .tmp t => t
  | .cell t _ => t
def Fin.isExit : Fin → Bool
  | .exit _ => true
  | _ => false
structure FHint where
  fz : Bool := false
  h : Nat → Hint := fun _ => {}
/-- what is lent -/
def lentOf : Nat → List S → List Nat
  | _, [] => []
  | i, x :: xs => bif plainS x then lentOf (i + 1) xs else i :: lentOf (i + 1) xs
noncomputable def runA (P : Program) (C : FuncId → List S → Option (List S × S)) (H : FuncId → FHint) (fuel : Nat) (f : FuncId) (args : List S) : Option (List S × S) :=
  match P.funcs[f]? with
  | some fn => match fn.body with
    | some c => bif fn.name == "runtime.NumGoroutine" || !Nat.ble args.length fn.ntmps then none else
      match execA C (EV P fn.ntmps (lentOf 0 args)) (fun id => { (H f).h id with mv := ((H f).h id).mv ++ fn.results.toList.map resSlot }) fuel c (st0 (entry 0 args)) with
      | some (e, st) => bif e.isExit then none else
        nL (getR st) ((fn.results.toList.map resSlot ++ lentOf 0 args).map fun s => (s, 0, S.no)) fun gout =>
          bif refsB (getR st) (getR (st0 gout)) gout then finE (tabOf P) gout fn.results.toList args (lentOf 0 args) else none
      | none => none
    | none => none
  | none => none
theorem runA_ok {P : Program} {C : FuncId → List S → Option (List S × S)} (hC : ∀ f es os res, C f es = some (os, res) → Den P f es os res) {H : FuncId → FHint} {fuel : Nat} {f : FuncId} {args outs : List S} {res : S}
    (h : runA P C H fuel f args = some (outs, res)) : Den P f args outs res := by
  unfold runA at h
  split at h
  · rename_i fn hf
    split at h
    · rename_i c hb
      cases hn : (fn.name == "runtime.NumGoroutine" || !Nat.ble args.length fn.ntmps) with
      | true => rw [hn] at h; simp at h
      | false =>
      rw [hn] at h
      simp only [Bool.or_eq_false_iff, Bool.not_eq_false'] at hn
      simp only [cond_false] at h
      split at h
      · rename_i e st he
        cases hx : e.isExit with
        | true => rw [hx] at h; simp at h
        | false =>
        rw [hx] at h
        simp only [cond_false] at h
        simp only [getR_eq] at h
        obtain ⟨gout, h, hg⟩ := nL_ok h
        simp only [cond_eq_ite] at h
        split at h
        · rename_i hb2
          obtain ⟨q, hq, hqh⟩ := cutL_of hg hb2
          refine den_tab hf hb hn.1 rfl hn.2 h (e := e) ?_ ?_
          · intro cx hV Q a w hs hQ
            exact (execA_ok rfl hV hC _ he).1 Q a w hs fun a' w' hs' => hQ a' w' (hs'.cut hq hqh)
          · cases e with
            | normal => exact .inl rfl
            | exit id => cases hx
            | ret => exact .inr rfl
        · cases h
      · cases h
    · cases h
  · cases h
/-- calls to a depth: known ones by their contracts, others by their code -/
noncomputable def callA (P : Program) (K0 : FuncId → List S → Option (List S × S)) (H : FuncId → FHint) (fuel : Nat) : Nat → FuncId → List S → Option (List S × S)
  | 0, _, _ => none
  | n + 1, f, args => match K0 f args with
    | some r => some r
    | none => match runA P (callA P K0 H fuel n) H fuel f args with
      | some (os, res) => some (os, bif (H f).fz then fzS res else res)
      | none => none
theorem callA_ok {P : Program} {K0 : FuncId → List S → Option (List S × S)} (h0 : ∀ f es os res, K0 f es = some (os, res) → Den P f es os res) {H : FuncId → FHint} {fuel : Nat} : ∀ (n : Nat) {f : FuncId} {args outs : List S} {res : S},
    callA P K0 H fuel n f args = some (outs, res) → Den P f args outs res
  | 0, f, args, outs, res, h => by simp [callA] at h
  | n + 1, f, args, outs, res, h => by
    simp only [callA] at h
    split at h
    · rename_i r hk
      simp only [Option.some.injEq] at h
      subst h
      exact h0 _ _ _ _ hk
    · split at h
      · rename_i os r hr
        simp only [Option.some.injEq, Prod.mk.injEq] at h
        obtain ⟨rfl, rfl⟩ := h
        have := runA_ok (fun f es os res h => callA_ok h0 n h) hr
        cases (H f).fz with
        | true => exact fzS_ok this
        | false => exact this
      · cases h
end Go.X
namespace Go.X
open Go Go.Proofs
theorem Alls.conv {h : Hp} {w : World} : ∀ {xs ys : List S} {vs : List Value} {bs : List Nat}, Cvs xs ys → Alls h w xs vs bs → ∃ bs', Alls h w ys vs bs' ∧ List.Sublist bs' bs
  | [], [], _, _, _, ha => by obtain ⟨rfl, rfl⟩ := ha; exact ⟨[], ⟨rfl, rfl⟩, List.Sublist.refl _⟩
  | x :: xs, y :: ys, vs, bs, .cons hc ht, ha => by
    obtain ⟨v, vs', b1, b2, rfl, rfl, h1, h2⟩ := ha
    obtain ⟨p, h3, h4⟩ := hc
    obtain ⟨b1', h5, h6⟩ := convT_ok h1 h3 h4
    obtain ⟨b2', h7, h8⟩ := Alls.conv ht h2
    exact ⟨b1' ++ b2', ⟨v, vs', b1', b2', rfl, rfl, h5, h7⟩, h6.append h8⟩
theorem Den.conv {P : Program} {f : FuncId} {args args' os : List S} {res res' : S} (hd : Den P f args os res) (ha : Cvs args' args) (hr : Cv res res') : Den P f args' os res' := by
  intro h w vs bs hh hal hn hl
  obtain ⟨bs', h1, h2⟩ := hal.conv ha
  refine (hd h w vs bs' hh h1 (hn.sublist h2) (fun b hb => hl b (h2.subset hb))).mono fun v w' ⟨k, bo, br, R⟩ => ?_
  obtain ⟨p, h3, h4⟩ := hr
  obtain ⟨br', h5, h6⟩ := convT_ok R.res h3 h4
  exact ⟨k, bo, br', R.le, fun b hb hnb => R.newc b hb fun hb' => hnb (h2.subset hb'), R.newg, R.holds, ⟨R.fr.os, R.fr.tape, R.fr.output, R.fr.size, fun b hb hn => R.fr.block b hb fun hx => hn (hx.imp (fun hb => h2.subset hb) id)⟩, R.outs, h5,
    R.nodup.sublist ((List.Sublist.refl _).append h6), fun b hb => (R.mine b (((List.Sublist.refl _).append h6).subset hb)).imp (fun h => h.imp id fun hb => h2.subset hb) id⟩
def seqO {γ : Type} (g : Nat → Option γ) : Nat → Nat → Option (List γ)
  | 0, _ => some []
  | n + 1, i => match g i, seqO g n (i + 1) with
    | some x, some l => some (x :: l)
    | _, _ => none
theorem seqO_ok {γ : Type} {g : Nat → Option γ} : ∀ {n i : Nat} {l : List γ}, seqO g n i = some l → l.length = n ∧ ∀ j (h : j < l.length), g (i + j) = some l[j]
  | 0, i, l, h => by simp only [seqO, Option.some.injEq] at h; subst h; exact ⟨rfl, fun j h => by cases h⟩
  | n + 1, i, l, h => by
    simp only [seqO] at h
    split at h
    · rename_i x l' h1 h2
      simp only [Option.some.injEq] at h
      subst h
      obtain ⟨h3, h4⟩ := seqO_ok h2
      refine ⟨by simp [h3], fun j hj => ?_⟩
      cases j with
      | zero => exact h1
      | succ j =>
        have := h4 j (by simpa using hj)
        rw [show i + (j + 1) = i + 1 + j by omega]
        simpa using this
    · cases h
def rdU : D → Option Nat
  | .v (.int .u32 (.ofNat m)) => fN m fun m => some m
  | _ => none
def rdW : D → Option (List Nat)
  | .sf sz n f => bif Nat.beq n 0 then some [] else bif Nat.beq sz 1 then seqO (fun j => rdU (f j 0)) n 0 else none
  | _ => none
theorem rdW_ok {d : D} {l : List Nat} (h : rdW d = some l) : ∃ p, convD d (.sf 1 l.length (wf l)) = some p ∧ p.h := by
  cases d with
  | sf sz n f =>
    simp only [rdW, cond_eq_ite] at h
    split at h
    · rename_i h0
      have h0' := Nat.eq_of_beq_eq_true h0
      subst h0'
      simp only [Option.some.injEq] at h
      subst h
      cases hz : Nat.beq sz 1 with
      | true =>
        refine ⟨.a (0 = ([] : List Nat).length ∧ FEq 0 sz f (wf [])), ?_, rfl, fun j i hj => absurd hj (Nat.not_lt_zero _)⟩
        show (bif Nat.beq sz 1 then _ else _) = _
        rw [hz]; rfl
      | false =>
        refine ⟨.a (([] : List Nat).length = 0), ?_, rfl⟩
        show (bif Nat.beq sz 1 then _ else _) = _
        rw [hz]; rfl
    · split at h
      · rename_i h1
        obtain ⟨h3, h4⟩ := seqO_ok h
        refine ⟨.a (n = l.length ∧ FEq n sz f (wf l)), by simp only [convD, h1, cond_true], h3.symm, fun j i hj hi => ?_⟩
        have hz := Nat.eq_of_beq_eq_true h1
        have hi : i = 0 := by omega
        subst hi
        have hj' : j < l.length := by omega
        have h5 := h4 j hj'
        rw [Nat.zero_add] at h5
        generalize hx : f j 0 = x at h5
        have hw : wf l j 0 = .v (.int .u32 (l[j] : Int)) := by
          show D.v (.int .u32 ((l.getD j 0 : Nat) : Int)) = _
          rw [show l.getD j 0 = l[j] by simp [List.getD, List.getElem?_eq_getElem hj']]
        rw [hw]
        unfold rdU at h5
        split at h5
        · rw [fN_eq] at h5
          simp only [Option.some.injEq] at h5
          rw [← h5]; rfl
        · cases h5
      · cases h
  | _ => cases h
def rdB : D → Option Bool
  | .v (.bool b) => some b
  | _ => none
def rdF : S → Option Fq
  | .one true [.d b, .d x, .d y] => match rdB b, rdW x, rdW y with
    | some b, some l, some m => some ⟨b, l, m⟩
    | _, _, _ => none
  | _ => none
theorem rdF_ok {x : S} {a : Fq} (h : rdF x = some a) : Cv x (FS a) := by
  unfold rdF at h
  split at h
  · rename_i b x y
    split at h
    · rename_i b' l m h1 h2 h3
      simp only [Option.some.injEq] at h
      subst h
      obtain ⟨p, h4, h5⟩ := rdW_ok h2
      obtain ⟨q, h6, h7⟩ := rdW_ok h3
      have hb : b = .v (.bool b') := by
        unfold rdB at h1
        split at h1
        · simp only [Option.some.injEq] at h1; rw [h1]
        · cases h1
      subst hb
      have h8 : convD (.v (.bool b')) (.v (.bool b')) = some (.a (b' = b')) := rfl
      exact ⟨.c (.a (b' = b')) (.c p (.c q .t)), by simp only [FS, convT, convCs, convC, h4, h6, h8, beq_self_eq_true, cond_true], rfl, h5, h7, trivial⟩
    · cases h
  · cases h
def wdB (l : List Nat) : Bool := l.all fun x => Nat.blt x 4294967296
def okB (a : Fq) : Bool := wdB a.n && wdB a.d && Nat.ble a.n.length 1000 && Nat.ble a.d.length 1000
theorem okB_ok {a : Fq} (h : okB a = true) : Ok 67108864 a := by
  simp only [okB, wdB, Bool.and_eq_true, List.all_eq_true, Nat.blt_eq] at h
  obtain ⟨⟨⟨h1, h2⟩, h3⟩, h4⟩ := h
  have h3 := Nat.le_of_ble_eq_true h3
  have h4 := Nat.le_of_ble_eq_true h4
  exact ⟨fun x hx => h1 x hx, fun x hx => h2 x hx, by omega, by omega⟩
/-- of one fraction -/
def kU (n : FuncId) : Option (Fq → S) :=
  bif Nat.beq n 112 then some fun f => FS (rq (fv f)) else
  bif Nat.beq n 36 then some fun f => num .i64 (fv f).num.sign else
  bif Nat.beq n 237 then some fun f => FS (rq (-(fv f))) else
  bif Nat.beq n 222 then some fun f => num .i64 ((nb (val f.n) + nb (val f.d) : Nat) : Int) else none
theorem kU_ok {n : FuncId} {g : Fq → S} {f : Fq} (h : kU n = some g) (hf : Ok 67108864 f) : Den PP n [FS f] [FS f] (g f) := by
  simp only [kU, cond_eq_ite] at h
  split at h
  · rename_i e; have e := Nat.eq_of_beq_eq_true e; subst e; injection h with h; subst h; exact frac_norm f hf
  split at h
  · rename_i e; have e := Nat.eq_of_beq_eq_true e; subst e; injection h with h; subst h; exact frac_sign f hf
  split at h
  · rename_i e; have e := Nat.eq_of_beq_eq_true e; subst e; injection h with h; subst h; exact frac_neg f hf
  split at h
  · rename_i e; have e := Nat.eq_of_beq_eq_true e; subst e; injection h with h; subst h; exact frac_size f hf
  cases h
/-- of two -/
def kB (n : FuncId) : Option (Fq → Fq → S) :=
  bif Nat.beq n 68 then some fun f k => FS (rq (fv f + fv k)) else
  bif Nat.beq n 82 then some fun f k => FS (rq (fv f * fv k)) else
  bif Nat.beq n 39 then some fun f k => bl (decide (fv f = fv k)) else
  bif Nat.beq n 83 then some fun f k => num .i64 (fv f - fv k).num.sign else
  bif Nat.beq n 334 then some fun f k => FS (rq (fv f - fv k)) else
  bif Nat.beq n 87 then some fun f k => bif decide (fv k = 0) then .tup [fsc (rq 0), bc false] else .tup [fsc (rq (fv f / fv k)), bc true] else none
theorem kB_ok {n : FuncId} {g : Fq → Fq → S} {f k : Fq} (h : kB n = some g) (hf : Ok 67108864 f) (hk : Ok 67108864 k) : Den PP n [FS f, FS k] [FS f, FS k] (g f k) := by
  simp only [kB, cond_eq_ite] at h
  split at h
  · rename_i e; have e := Nat.eq_of_beq_eq_true e; subst e; injection h with h; subst h; exact frac_add f k hf hk
  split at h
  · rename_i e; have e := Nat.eq_of_beq_eq_true e; subst e; injection h with h; subst h; exact frac_mul f k hf hk
  split at h
  · rename_i e; have e := Nat.eq_of_beq_eq_true e; subst e; injection h with h; subst h; exact frac_same f k hf hk
  split at h
  · rename_i e; have e := Nat.eq_of_beq_eq_true e; subst e; injection h with h; subst h; exact frac_cmp f k hf hk
  split at h
  · rename_i e; have e := Nat.eq_of_beq_eq_true e; subst e; injection h with h; subst h; exact frac_sub f k hf hk
  split at h
  · rename_i e; have e := Nat.eq_of_beq_eq_true e; subst e; injection h with h; subst h
    by_cases h0 : fv k = 0
    · simp only [decide_eq_true h0, if_true]; exact frac_quo_0 f k hf hk h0
    · simp only [decide_eq_false h0]; exact frac_quo f k hf hk h0
  cases h
def K0 (f : FuncId) (es : List S) : Option (List S × S) :=
  match es with
  | [x] => match kU f with
    | some g => match rdF x with
      | some a => bif okB a then nS (g a) fun r => some ([FS a], r) else none
      | none => none
    | none => none
  | [x, y] => match kB f with
    | some g => match rdF x, rdF y with
      | some a, some b => bif okB a && okB b then nS (g a b) fun r => some ([FS a, FS b], r) else none
      | _, _ => none
    | none => none
  | _ => none
theorem K0_ok {f : FuncId} {es os : List S} {res : S} (h : K0 f es = some (os, res)) : Den PP f es os res := by
  unfold K0 at h
  split at h
  · rename_i x
    split at h
    · rename_i g hg
      split at h
      · rename_i a ha
        simp only [cond_eq_ite] at h
        split at h
        · rename_i hb
          obtain ⟨y, h1, h2⟩ := nS_ok h
          simp only [Option.some.injEq, Prod.mk.injEq] at h1
          obtain ⟨rfl, rfl⟩ := h1
          exact (kU_ok hg (okB_ok hb)).conv (.cons (rdF_ok ha) .nil) h2
        · cases h
      · cases h
    · cases h
  · rename_i x y
    split at h
    · rename_i g hg
      split at h
      · rename_i a b ha hb
        simp only [cond_eq_ite] at h
        split at h
        · rename_i hab
          simp only [Bool.and_eq_true] at hab
          obtain ⟨y, h1, h2⟩ := nS_ok h
          simp only [Option.some.injEq, Prod.mk.injEq] at h1
          obtain ⟨rfl, rfl⟩ := h1
          exact (kB_ok hg (okB_ok hab.1) (okB_ok hab.2)).conv (.cons (rdF_ok ha) (.cons (rdF_ok hb) .nil)) h2
        · cases h
      · cases h
    · cases h
  · cases h
end Go.X
