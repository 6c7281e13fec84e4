/- A symbolic executor over the model's wp, part 9: the run, and what it stops at. -/
import Derived.Test.YtkmplcpibgnjcaaSxD
import Derived.Test.YtkmplcpibgnjcaaSxG
namespace Go.Sx
open Go.RowKit

/-! ### What the run stops at -/
inductive Evt where
  | call (f : FuncId) (args : List TV)
  | idx (size : Nat) (A : Option Addr) (n : Nat) (i : Int)
  | ld (ti : TI) (a : Addr)
  | slc (size : Nat) (A : Option Addr) (n cap : Nat) (lo hi : Option Int)
  | prim (o : Op) (type : TypeId) (args : List TV)
  | row (cs : List CV) (len : Nat)
  | app (k : Nat) (e : TypeId) (A : Option Addr) (n c : Nat) (B : Option Addr) (m : Nat)
  | appz (k : Nat) (zero : List Value) (e : TypeId) (A : Option Addr) (n c : Nat) (m : Int)

def intO (e : Operand → Option TV) : Option Operand → Option (Option Int)
  | none => some none
  | some x => match e x with | some (.c (.v (.int _ n))) => some (some n) | _ => none
def primO (e : Operand → Option TV) (o : Oper) : Option Evt := (mapO e o.op.operands.toList).map (.prim o.op o.type)

def evt (T : Tb) (e : Operand → Option TV) (o : Oper) : Option Evt :=
  match o.op with
  | .call { callee := .value f, args, .. } => match e f, mapO e args.toList with
    | some (.c (.fn f caps)), some xs => some (.call f (xs ++ caps.map fun q => .c (.p q.1 q.2)))
    | _, _ => none
  | .indexAddr t x i => match T.lookup t, e x, e i with
    | some ti, some (.c (.v (.slice A n _))), some (.c (.v (.int _ k))) => if ti.k = 2 then match T.lookup ti.elem with
      | some te => some (.idx te.size A n k)
      | none => none
      else none
    | _, _, _ => none
  | .load t a => match T.lookup t, e a with
    | some ti, some (.c (.v (.pointer (some a)))) => some (.ld ti a)
    | _, _ => none
  | .slice t x lo hi none => match T.lookup t, e x, intO e lo, intO e hi with
    | some ti, some (.c (.v (.slice A n cap))), some l, some h => if ti.k = 2 then match T.lookup ti.elem with
      | some te => some (.slc te.size A n cap l h)
      | none => none
      else primO e o
    | _, _, _, _ => primO e o
  | .buildSlice t len parts => (xrow T e t len parts.toList).map fun cs => .row cs len
  | .call { callee := .builtin .append, args, argTypes } => match args.toList, argTypes.toList with
    | [s, x], [t, t'] => match T.lookup t, T.lookup t', e s, e x with
      | some ti, some ti', some (.c (.v (.slice A n c))), some (.c (.v y)) => if ti.k = 2 then match T.lookup ti.elem with
        | some te => if te.zero.length = te.size ∧ 0 < te.size then match y with
          | .slice B m _ => if t = t' then some (.app te.size ti.elem A n c B m) else none
          | .int _ m => if ti'.ik.isSome then some (.appz te.size te.zero ti.elem A n c m) else none
          | _ => primO e o
          else primO e o
        | none => primO e o
        else primO e o
      | _, _, _, _ => primO e o
    | _, _ => primO e o
  | .call { callee := .builtin .copy, .. } | .makeSlice .. | .convert .. | .binOp .. | .index .. | .makeInterface .. | .lookup .. | .mapUpdate .. | .makeMap .. | .store .. => primO e o
  | _ => none

def hat (H : Hp) (a : Addr) (j : Nat) : Option Value := if a.spot = none then H a.block (a.off + j) else none

/-! ### What is left to do from a state, and what an event asks -/
def It.isDr : It → Bool
  | .dr .. => true
  | _ => false
def noDr (k : List It) : Bool := k.all fun x => !x.isDr
def ItOk1 (C : Code) (H : Hp) : List It → List (List CV) → Prop
  | .dr p sn sk H0 L :: _, bx => SnOk sn sk L bx ∧ sn.length ≤ bx.length ∧ Hp.le H0 H ∧ ∃ ops d, regAt C p = some (ops, d) ∧ staticB ops = true ∧ Closed ops L ∧ L.length = ops.size
  | _, _ => True
def ItOk (C : Code) (H : Hp) (its : List It) (bx : List (List CV)) : Prop := noDr its.tail = true ∧ ItOk1 C H its bx
theorem ItOk.of {C : Code} {H : Hp} {its : List It} {bx : List (List CV)} (h : noDr its = true) : ItOk C H its bx := by
  cases its with
  | nil => exact ⟨rfl, trivial⟩
  | cons x k =>
    simp only [noDr, List.all_cons, Bool.and_eq_true] at h
    refine ⟨h.2, ?_⟩
    cases x <;> first | trivial | (simp [It.isDr] at h)
def DrHyp (β : Bl) : List It → Prop
  | .dr _ sn _ _ _ :: _ => ∀ (k i : Nat) (cs : List CV) (c : CV), sn[k]? = some cs → cs[i]? = some c → ∃ x, c.den (β.take sn.length) = some x
  | _ => True
def itsD (P : Program) (C : Code) (Q : Exit → Act → World → Prop) (β : Bl) : List It → Act → World → Prop
  | .dr p sn sk H L :: k => fun a w => match regAt C p with
    | some (ops, _) => wpAnyJ P ops (Xk P C Q k) (Jd (β.take sn.length) sn sk H) (L.count false) L.toArray a w
    | none => False
  | its => itsWp P C Q its
theorem itsD_of {P : Program} {C : Code} {Q : Exit → Act → World → Prop} {β : Bl} {its : List It} (h : noDr its = true) : itsD P C Q β its = itsWp P C Q its := by
  cases its with
  | nil => rfl
  | cons x k =>
    simp only [noDr, List.all_cons, Bool.and_eq_true] at h
    cases x <;> first | rfl | (simp [It.isDr] at h)
theorem DrHyp.of {β : Bl} {its : List It} (h : noDr its = true) : DrHyp β its := by
  cases its with
  | nil => trivial
  | cons x k =>
    simp only [noDr, List.all_cons, Bool.and_eq_true] at h
    cases x <;> first | trivial | (simp [It.isDr] at h)
def hpOf (G : Gh) : List It → Hp
  | .dr _ _ _ H _ :: _ => H
  | _ => G.H
def WP (P : Program) (C : Code) (Q : Exit → Act → World → Prop) (G : Gh) (its : List It) (st : St) : Prop :=
  ItOk C G.H its st.bx → ∀ β a w, Rel β st a → Good G β st.bx w → DrHyp β its → itsD P C Q β its a w

/-- the cells of a slice's elements -/
def Rw (H : Hp) (k : Nat) (A : Option Addr) (n : Nat) (xs : List Value) : Prop := xs.length = n * k ∧ ∀ (j : Nat) (v : Value), xs[j]? = some v → ∃ ad, A = some ad ∧ hat H ad j = some v
/-- what an append leaves -/
def AppNext (G : Gh) (k : Nat) (e : TypeId) (A : Option Addr) (n c m : Nat) (xs ys : List Value) (A' : Option Addr) (c' : Nat) (G' : Gh) : Prop :=
  (m = 0 ∧ A' = A ∧ c' = c ∧ G' = G) ∨
  (∃ b, A = some ⟨b, 0, none⟩ ∧ A' = A ∧ c' = c ∧ n + m ≤ c ∧ ⟨b, n, c, k, e⟩ ∈ G.R ∧ G' = { G with H := G.H.add b (n * k) ys, R := ⟨b, n + m, c, k, e⟩ :: G.R.filter (fun x => x.b != b), Z := G.zpush b ys.length }) ∨
  (∃ b, (∀ o, G.H b o = none) ∧ A' = some ⟨b, 0, none⟩ ∧ (n + m ≤ c' ∧ c < n + m) ∧ G' = { G with H := G.H.add b 0 (xs ++ ys), R := ⟨b, n + m, c', k, e⟩ :: G.R })

def EvG (P : Program) (C : Code) (Q : Exit → Act → World → Prop) (G : Gh) (d : Option Nat) (its : List It) (st : St) : Evt → Prop
  | .call f args => ItOk C G.H its st.bx → (∀ as w, (callFunc f as).run P w = .ok (.enter f as) w) ∧ ∀ β w vs, Good G β st.bx w → tvsDen β args = some vs →
      Calls P f vs.toArray w fun r w' => ∃ v av st' G' l bx', r = .returned v ∧ av.is (β ++ l) v ∧ st.put d av = some st' ∧ Good G' (β ++ l) bx' w' ∧ ItOk C G'.H its bx' ∧ WP P C Q G' its { st' with bx := bx' }
  | .idx size A n i => 0 ≤ i ∧ i < n ∧ ∃ ad, A = some ad ∧ ∀ pa, pa = ad.add (i.toNat * size) → ∃ st', st.put d (.t (.c (.v (.pointer (some pa))))) = some st' ∧ WP P C Q G its st'
  | .ld ti a => ∃ vs : List Value, vs.length = ti.size ∧ (∀ (j : Nat) (x : Value), vs[j]? = some x → hat (hpOf G its) a j = some x) ∧
      ((ti.agg = true ∧ ∃ st', st.put d (.t (.agg (vs.map .v))) = some st' ∧ WP P C Q G its st') ∨ (ti.agg = false ∧ ∃ v st', vs = [v] ∧ st.put d (.t (.c (.v v))) = some st' ∧ WP P C Q G its st'))
  | .slc size A n cap lo hi => 0 ≤ lo.getD 0 ∧ lo.getD 0 ≤ hi.getD n ∧ hi.getD n ≤ cap ∧ ∀ A' n' c', A' = (if cap = (lo.getD 0).toNat then A else A.map (·.add ((lo.getD 0).toNat * size))) →
      n' = (hi.getD n).toNat - (lo.getD 0).toNat → c' = cap - (lo.getD 0).toNat → ∃ st', st.put d (.t (.c (.v (.slice A' n' c')))) = some st' ∧ WP P C Q G its st'
  | .prim o ty args => ItOk C G.H its st.bx → ∀ β w vs (ρ : Operand → Value), Good G β st.bx w → tvsDen β args = some vs → o.operands.toList.map ρ = vs →
      (∃ v w' av st' G' l bx', (execOp ρ { (default : Oper) with op := o, type := ty }).run P w = .ok (.value v) w' ∧ av.is (β ++ l) v ∧ st.put d av = some st' ∧ Good G' (β ++ l) bx' w' ∧ ItOk C G'.H its bx' ∧ WP P C Q G' its { st' with bx := bx' }) ∨
      (∃ w' G' l bx', d = none ∧ (execOp ρ { (default : Oper) with op := o, type := ty }).run P w = .ok .skip w' ∧ Good G' (β ++ l) bx' w' ∧ ItOk C G'.H its bx' ∧ WP P C Q G' its { st with bx := bx' })

  | .row cs len => ItOk C G.H its st.bx → ∃ vs, cs = vs.map CV.v ∧ ∀ b, (∀ o, G.H b o = none) → ∃ st', st.put d (.t (.c (.v (.slice (some ⟨b, 0, none⟩) len len)))) = some st' ∧ WP P C Q { G with H := G.H.add b 0 vs } its st'
  | .app k e A n c B m => ItOk C G.H its st.bx → ∃ xs ys, Rw G.H k A n xs ∧ Rw G.H k B m ys ∧ (∀ u ∈ ys, u.oneCell' = true) ∧ n ≤ c ∧ n + m ≤ 1048576 ∧ (A = none → c = 0) ∧ (0 < m → n + m ≤ c → ∃ b, A = some ⟨b, 0, none⟩ ∧ ⟨b, n, c, k, e⟩ ∈ G.R) ∧
      ∀ A' c' G', AppNext G k e A n c m xs ys A' c' G' → Hp.le G.H G'.H → Rw G'.H k A' (n + m) (xs ++ ys) → n + m ≤ c' → ∃ st', st.put d (.t (.c (.v (.slice A' (n + m) c')))) = some st' ∧ WP P C Q G' its st'
  | .appz k _ e A n c m => ItOk C G.H its st.bx → A = none ∧ n = 0 ∧ c = 0 ∧ 0 < m ∧ m ≤ 1048576 ∧ ∀ b c', (∀ o, G.H b o = none) → m.toNat ≤ c' → ∃ st', st.put d (.t (.c (.v (.slice (some ⟨b, 0, none⟩) m.toNat c')))) = some st' ∧
      WP P C Q { G with R := ⟨b, 0, c', k, e⟩ :: G.R } its st'

inductive Res where
  | stop (its : List It) (st : St)
  | ev (e : Evt) (d : Option Nat) (its : List It) (st : St)
  | br (b : Bool) (x y : Res)
  | alt (x y : Res)
  | fin (st : St)
  | ret (vs : Option (List TV)) (st : St)
  | out (id : Nat) (st : St)
  | loop (p : List Nat) (its : List It) (st : St)
  | range (p : List Nat) (its : List It) (st : St)

def xres (T : Tb) (st : St) : List ResultVar → Option (List TV)
  | [] => some []
  | .tmp t :: l => match ev st none (.tmp t), xres T st l with
    | some x, some r => some (x :: r)
    | _, _ => none
  | .cell a t :: l => match T.lookup t, ev st none (.tmp a), xres T st l with
    | some ti, some (.c (.p k off)), some r => match st.bx[k]? with
      | some cs => (xload ti cs off).map fun y => y :: r
      | none => none
    | _, _, _ => none

inductive CR where
  | known (b : Bool)
  | sym (t : Tmp) (b : Bool)
  | no
def condB (st : St) : Operand → CR
  | .const (.bool b) => .known b
  | .tmp d => match st.t.lookup d with
    | some (.kb b) => .known b
    | some (.t (.c (.v (.bool b)))) => .sym d b
    | _ => .no
  | _ => .no
/-- what a guard's answer tells of what it guards -/
def told (n : Nat) (t : Tmp) (b : Bool) (g : List (Nat × Nat × Bool × TV)) : List (Nat × AV) := g.filterMap fun p => if p.2.1 = t ∧ p.1 < n then (if p.2.2.1 = b then some (p.1, .t p.2.2.2) else some (p.1, .t (.c (.v undef)))) else none
def St.know (st : St) (t : Tmp) (b : Bool) : St := { st with t := (t, .kb b) :: (told st.n t b st.g ++ st.t) }


def gdOf (ops : Array Oper) (o : Oper) (st : St) : Option (Option (Nat × Bool)) :=
  match o.guard with
  | none => some none
  | some (j, want) => match (ops[j]?).bind (·.dst) with
    | none => none
    | some gt => match st.t.lookup gt with
      | some (.kb b) => if b = want then some (some (gt, want)) else none
      | _ => none

/-! ### Regions that draw -/
def isVal : Evt → Bool
  | .idx .. | .ld .. | .slc .. => true
  | _ => false
def xdoV (O : Ops) (T : Tb) (st : St) (g : Option (Nat × Bool)) (o : Oper) : Option St :=
  match xstep O T st g o.op with
  | some (.val av) => st.put o.dst av
  | _ => none
def xoperV (O : Ops) (T : Tb) (ops : Array Oper) (o : Oper) (st : St) : SR :=
  match o.guard with
  | none => match xdoV O T st none o with
    | some st' => .ok st'
    | none => .no
  | some (j, want) => match (ops[j]?).bind (·.dst) with
    | none => .no
    | some gt => match st.t.lookup gt with
      | some (.kb b) => if b = want then match xdoV O T st (some (gt, want)) o with
          | some st' => .ok st'
          | none => .no
        else match st.put o.dst (.t (.c (.v undef))) with
        | some st' => .ok st'
        | none => .no
      | some (.t (.c (.v (.bool b)))) => match xstep O T st (some (gt, want)) o.op, o.dst with
        | some (.val av), some d => match av.tv with
          | some x => if d < st.n ∧ (st.t.lookup d).isNone ∧ d ≠ gt ∧ st.g.all (fun q => q.1 != d && q.2.1 != d) then .ok { st with g := (d, gt, want, x) :: st.g } else .br gt b
          | none => .br gt b
        | _, _ => .br gt b
      | some (.t (.c (.v (.tuple _)))) => match st.put o.dst (.t (.c (.v undef))) with
        | some st' => .ok st'
        | none => .no
      | none => match gsrc gt st.g with
        | some gt' => match st.t.lookup gt' with
          | some (.t (.c (.v (.bool b)))) => .br gt' b
          | _ => .no
        | none => .no
      | _ => .no
inductive Pk where
  | det (i : Nat) (st : St)
  | br (t : Tmp) (b : Bool)
  | val (i : Nat) (o : Oper) (e : Evt)
  | no
def pick (O : Ops) (T : Tb) (ops : Array Oper) (sn : List (List CV)) (sk : List (Nat × Nat)) (L : List Bool) (st : St) : List (Oper × Nat) → Pk
  | [] => .no
  | (o, i) :: l => if L.getD i true = false ∧ readyB o L = true ∧ sk.all (fun q => q.2 != i) = true then
      match xoperV O T ops o { st with bx := maskB sn sk ops i st.bx.length } with
      | .ok st' => .det i { st' with bx := st.bx }
      | .br t b => .br t b
      | .no => match gdOf ops o st with
        | some g => match evt T (ev st g) o with
          | some e => if isVal e = true then .val i o e else pick O T ops sn sk L st l
          | none => pick O T ops sn sk L st l
        | none => pick O T ops sn sk L st l
    else pick O T ops sn sk L st l
def readyL (ops : Array Oper) (L : List Bool) : List (Oper × Nat) := ops.toList.zipIdx.filter fun p => !L.getD p.2 true && readyB p.1 L
def storeFine (sn : List (List CV)) (sk : List (Nat × Nat)) (st : St) (g : Option (Nat × Bool)) (i : Nat) (o : Oper) : Bool :=
  match o.op with
  | .store _ x _ => match ev st g x with
    | some (.c (.p k _)) => decide (sn.length ≤ k) || sk.any fun q => q.1 == k && q.2 == i
    | _ => false
  | _ => true
/-- whose box is it? (advice alone: nothing is proved of it) -/
def addrBox (st : St) (ops : List Oper) : Nat → Operand → Option (Option Nat)
  | 0, _ => none
  | f + 1, x => match x with
    | .tmp t => match ops.find? fun o => o.dst == some t with
      | some o => match o.op with
        | .fieldAddr _ y _ | .nilCheck y | .move y | .indexAddr _ y _ => addrBox st ops f y
        | .alloc _ | .box _ _ => some none
        | _ => none
      | none => match st.t.lookup t with
        | some (.t (.c (.p k _))) => some (some k)
        | some (.t (.c (.v (.pointer _)))) => some none
        | _ => none
    | _ => none
def skOf (st : St) (ops : List Oper) : List (Nat × Nat) :=
  ops.zipIdx.flatMap fun p => match p.1.op with
    | .store _ x _ => match addrBox st ops 12 x with
      | some (some k) => [(k, p.2)]
      | some none => []
      | none => (List.range st.bx.length).map fun k => (k, p.2)
    | .call { callee := .value _, args, .. } => args.toList.filterMap fun x => match addrBox st ops 12 x with
      | some (some k) => some (k, p.2)
      | _ => none
    | _ => []

/-- the program's side of a run: types, the body, its results -/
structure Env where
  O : Ops
  H : Hp
  T : Tb
  C : Code
  rs : List ResultVar
  dp : List (List Nat)
def drOk (C : Code) (dp : List (List Nat)) : Bool := dp.all fun p => match regAt C p with
  | some (ops, _) => staticB ops
  | none => true

/-- an operation of those that may come up now, none of which can be taken first -/
def oneDr (E : Env) (ops : Array Oper) (p : List Nat) (sn : List (List CV)) (sk : List (Nat × Nat)) (H : Hp) (L : List Bool) (k : List It) (st : St) (rn : List It → St → Res) (q : Oper × Nat) : Res :=
  match gdOf ops q.1 st with
  | some g => match xdo E.O E.T st g q.1 with
    | .ok st' => if storeFine sn sk st g q.2 q.1 = true then rn (.dr p sn sk H (L.set q.2 true) :: k) st' else .stop (.dr p sn sk H L :: k) st
    | _ => match evt E.T (ev st g) q.1 with
      | some e => .ev e q.1.dst (.dr p sn sk H (L.set q.2 true) :: k) st
      | none => .stop (.dr p sn sk H L :: k) st
  | none => .stop (.dr p sn sk H L :: k) st
def altL (f : Oper × Nat → Res) (q : Oper × Nat) : List (Oper × Nat) → Res
  | [] => f q
  | q' :: qs => .alt (f q) (altL f q' qs)
def run (E : Env) : Nat → List It → St → Res
  | 0, its, st => .stop its st
  | f + 1, its, st => match its with
    | [] => .fin st
    | .blk _ :: k => run E f k st
    | .ops _ _ 0 :: k => run E f k { st with g := [] }
    | .ops p i (n + 1) :: k => match regAt E.C p with
      | some (ops, _) => match ops[i]? with
        | some o => match xoper E.O E.T ops o st with
          | .ok st' => run E f (.ops p (i + 1) n :: k) st'
          | .br t b => .br b (run E f (.ops p i (n + 1) :: k) (st.know t true)) (run E f (.ops p i (n + 1) :: k) (st.know t false))
          | .no => match gdOf ops o st with
            | some g => match evt E.T (ev st g) o with
              | some e => .ev e o.dst (.ops p (i + 1) n :: k) st
              | none => .stop (.ops p i (n + 1) :: k) st
            | none => .stop (.ops p i (n + 1) :: k) st
        | none => .stop (.ops p i (n + 1) :: k) st
      | none => .stop (.ops p i (n + 1) :: k) st
    | .dr p sn sk H L :: k => match regAt E.C p with
      | some (ops, _) => if L.all id = true then run E f k { st with g := [] } else match pick E.O E.T ops sn sk L st ops.toList.zipIdx with
        | .det i st' => run E f (.dr p sn sk H (L.set i true) :: k) st'
        | .br t b => .br b (run E f (.dr p sn sk H L :: k) (st.know t true)) (run E f (.dr p sn sk H L :: k) (st.know t false))
        | .val i o e => .ev e o.dst (.dr p sn sk H (L.set i true) :: k) st
        | .no => match readyL ops L with
          | q :: qs => altL (oneDr E ops p sn sk H L k st (run E f)) q qs
          | [] => .stop (.dr p sn sk H L :: k) st
      | none => .stop (.dr p sn sk H L :: k) st
    | .code p :: k => match sub E.C p with
      | some .skip => run E f k st
      | some (.seq _ _) => run E f (.code (0 :: p) :: .code (1 :: p) :: k) st
      | some (.cond g _ _) => match condB st g with
        | .known b => run E f (.code ((if b then 0 else 1) :: p) :: k) st
        | .sym t b => .br b (run E f (.code (0 :: p) :: k) (st.know t true)) (run E f (.code (1 :: p) :: k) (st.know t false))
        | .no => .stop (.code p :: k) st
      | some (.block id _) => run E f (.code (0 :: p) :: .blk id :: k) st
      | some (.exit id) => match leave id k with
        | some k' => run E f k' st
        | none => .out id st
      | some (.region _ ops false) => run E f (.ops p 0 ops.size :: k) st
      | some (.region _ ops true) => if E.dp.contains p = true then run E f (.dr p st.bx (skOf st ops.toList) E.H (List.replicate ops.size false) :: k) { st with g := [] } else .stop (.code p :: k) st
      | some .ret => .ret (xres E.T st E.rs) st
      | some (.loop _) => .loop (0 :: p) k st
      | some (.rangeFunc _ _ _ _) => .range p k st
      | _ => .stop (.code p :: k) st

def RetG (T : Tb) (rs : List ResultVar) (Q : Exit → Act → World → Prop) (G : Gh) (vs : Option (List TV)) (st : St) : Prop := xres T st rs = vs → ∀ β a w, Rel β st a → Good G β st.bx w → Q .ret a w
def FinG (Q : Exit → Act → World → Prop) (G : Gh) (e : Exit) (st : St) : Prop := ∀ β a w, Rel β st a → Good G β st.bx w → Q e a w
def LoopG (P : Program) (C : Code) (Q : Exit → Act → World → Prop) (G : Gh) (p : List Nat) (its : List It) (st : St) : Prop :=
  ∀ β a w, Rel β st a → Good G β st.bx w → ∃ c, sub C p = some c ∧ (Code.loop c).wp P (Xk P C Q its) a w
def Res.ok (P : Program) (E : Env) (Q : Exit → Act → World → Prop) (G : Gh) : Res → Prop
  | .stop its st => WP P E.C Q G its st
  | .ev e d its st => EvG P E.C Q G d its st e
  | .br b x y => (b = true → x.ok P E Q G) ∧ (b = false → y.ok P E Q G)
  | .alt x y => x.ok P E Q G ∧ y.ok P E Q G
  | .fin st => FinG Q G .normal st
  | .ret vs st => RetG E.T E.rs Q G vs st
  | .out id st => FinG Q G (.exit id) st
  | .loop p its st => LoopG P E.C Q G p its st
  | .range p its st => WP P E.C Q G (.code p :: its) st

theorem altL_ok {P : Program} {E : Env} {Q : Exit → Act → World → Prop} {G : Gh} {f : Oper × Nat → Res} : ∀ {qs : List (Oper × Nat)} {q : Oper × Nat}, (altL f q qs).ok P E Q G → ∀ x ∈ q :: qs, (f x).ok P E Q G
  | [], q, h, x, hx => by simp at hx; subst hx; exact h
  | q' :: qs, q, h, x, hx => by
    obtain ⟨h1, h2⟩ := h
    rcases List.mem_cons.1 hx with rfl | hx
    · exact h1
    · exact altL_ok h2 x hx
theorem told_lookup {n : Nat} {t : Tmp} {b : Bool} {d : Nat} {av : AV} : ∀ {g : List (Nat × Nat × Bool × TV)} {m : List (Nat × AV)}, (told n t b g ++ m).lookup d = some av →
    m.lookup d = some av ∨ ∃ p ∈ g, p.1 = d ∧ d < n ∧ p.2.1 = t ∧ ((p.2.2.1 = b ∧ av = .t p.2.2.2) ∨ (p.2.2.1 = !b ∧ av = .t (.c (.v undef))))
  | [], m, h => .inl h
  | p :: g, m, h => by
    have rest : (told n t b g ++ m).lookup d = some av → m.lookup d = some av ∨ ∃ p' ∈ p :: g, p'.1 = d ∧ d < n ∧ p'.2.1 = t ∧ ((p'.2.2.1 = b ∧ av = .t p'.2.2.2) ∨ (p'.2.2.1 = !b ∧ av = .t (.c (.v undef)))) := fun h => by
      rcases told_lookup h with h | ⟨q, hq, h⟩
      · exact .inl h
      · exact .inr ⟨q, List.mem_cons_of_mem _ hq, h⟩
    unfold told at h
    rw [List.filterMap_cons] at h
    by_cases hc : p.2.1 = t ∧ p.1 < n
    · rw [if_pos hc] at h
      by_cases hb : p.2.2.1 = b
      · rw [if_pos hb] at h
        simp only [List.cons_append, List.lookup] at h
        split at h
        · rename_i e
          simp at e h
          exact .inr ⟨p, List.mem_cons_self, e.symm, by rw [e]; exact hc.2, hc.1, .inl ⟨hb, h.symm⟩⟩
        · exact rest h
      · rw [if_neg hb] at h
        simp only [List.cons_append, List.lookup] at h
        split at h
        · rename_i e
          simp at e h
          exact .inr ⟨p, List.mem_cons_self, e.symm, by rw [e]; exact hc.2, hc.1, .inr ⟨by revert hb; cases p.2.2.1 <;> cases b <;> simp, h.symm⟩⟩
        · exact rest h
    · rw [if_neg hc] at h
      exact rest h
theorem Rel.know {β : Bl} {st : St} {a : Act} (r : Rel β st a) {t : Tmp} {b : Bool} (hl : st.t.lookup t = some (.t (.c (.v (.bool b))))) : Rel β (st.know t b) a := by
  refine ⟨r.size, fun d av h => ?_, r.gd, r.df, r.gu⟩
  have hb : a.tmps.getD t undef = .bool b := by
    have := (r.tm t _ hl).2
    simp only [AV.is, TV.den, CV.den, Option.some.injEq] at this
    exact this.symm
  simp only [St.know, List.lookup] at h
  split at h
  · rename_i e
    simp at e h
    subst e; subst h
    obtain ⟨h1, h2⟩ := r.tm _ _ hl
    simp only [AV.is, TV.den, CV.den, Option.some.injEq] at h2
    exact ⟨h1, h2.symm⟩
  · rcases told_lookup h with h | ⟨p, hp, rfl, hd, rfl, ⟨h1, rfl⟩ | ⟨h1, rfl⟩⟩
    · exact r.tm d av h
    · exact ⟨hd, r.gd p hp (by rw [hb, h1])⟩
    · refine ⟨hd, ?_⟩
      have := r.gu p hp (by rw [hb, h1]; simp)
      rw [this]
      rfl

theorem condB_eval {β : Bl} {st : St} {a : Act} (r : Rel β st a) {g : Operand} : (∀ b, condB st g = .known b → a.eval g = .bool b) ∧
    ∀ t b, condB st g = .sym t b → a.eval g = .bool b ∧ st.t.lookup t = some (.t (.c (.v (.bool b)))) := by
  unfold condB
  split
  · exact ⟨fun b h => by cases h; rfl, fun t b h => by cases h⟩
  · rename_i d
    split
    · rename_i b hl
      exact ⟨fun b' h => by cases h; exact (r.tm d _ hl).2, fun t b h => by cases h⟩
    · rename_i b hl
      refine ⟨fun b h => (by cases h), fun t b' h => ?_⟩
      cases h
      have := (r.tm d _ hl).2
      simp only [AV.is, TV.den, CV.den, Option.some.injEq] at this
      exact ⟨this.symm, hl⟩
    · exact ⟨fun b h => (by cases h), fun t b h => (by cases h)⟩
  · exact ⟨fun b h => (by cases h), fun t b h => (by cases h)⟩

theorem primO_ok {e : Operand → Option TV} {o : Oper} {x : Evt} (h : primO e o = some x) : ∃ xs, mapO e o.op.operands.toList = some xs ∧ x = .prim o.op o.type xs := by
  unfold primO at h
  simp only [Option.map_eq_some_iff] at h
  obtain ⟨xs, h1, h2⟩ := h
  exact ⟨xs, h1, h2.symm⟩

end Go.Sx
