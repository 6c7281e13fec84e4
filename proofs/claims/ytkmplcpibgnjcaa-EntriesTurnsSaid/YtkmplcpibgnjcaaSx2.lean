/- A symbolic executor over the model's wp, part 2: one operation. -/
import Derived.Test.YtkmplcpibgnjcaaSxE
import Derived.Laws.IdiomCopy
import Derived.Laws.Small
namespace Go.Sx
open Go.RowKit

/-! ### Types -/
structure TI where
  k : Nat
  size : Nat
  agg : Bool
  zero : List Value
  flds : List (Nat × Nat × Nat)
  elem : Nat
  len : Nat
  ik : Option IntKind
  eqs : Option (List (Nat × Nat))

structure TIok (P : Program) (t : TypeId) (ti : TI) : Prop where
  size : ∀ w, (sizeOf t).run P w = .ok ti.size w
  agg : ∀ w, (isAgg t).run P w = .ok ti.agg w
  zero : ∀ w, ∃ z, (zeroValue t).run P w = .ok z w ∧ z.cells.toList = ti.zero
  flds : ti.k = 0 → ∃ fs : Array Field, P.underlying t = some (.struct fs) ∧ fs.toList.map (fun f => (f.offset, P.cellsOf f.type, f.type)) = ti.flds ∧
    ∀ f ∈ fs.toList, ∀ w, (sizeOf f.type).run P w = .ok (P.cellsOf f.type) w
  arr : ti.k = 1 → P.underlying t = some (.array ti.len ti.elem)
  sl : ti.k = 2 → P.underlying t = some (.slice ti.elem)
  str : ti.k = 3 → P.underlying t = some .string
  int : ∀ kd, ti.ik = some kd → P.underlying t = some (.int kd)
  und : ∃ d, P.underlying t = some d
  bool : ti.k = 5 → P.underlying t = some .bool
  eqs : ∀ L, ti.eqs = some L → leaves P 8 t = some L ∧ P.eqGuardType P.depth t = false ∧ ((∃ fs, P.underlying t = some (.struct fs)) ∨ ∃ n e, P.underlying t = some (.array n e))
  info : ∃ i z, P.info? t = some i ∧ i.zero = some z ∧ i.size = ti.size ∧ z.cells.toList = ti.zero ∧ i.bytes ≤ 1048576
theorem run_und {P : Program} {t : TypeId} {d : TypeDesc} (h : P.underlying t = some d) (w : World) : (underlying t).run P w = .ok d w := by simp [underlying, h]

def mkTI (P : Program) (t : TypeId) : Option TI :=
  match P.info? t, P.underlying t with
  | some i, some d => match i.zero with
    | some z =>
      let fine : Bool := match d with | .struct fs => fs.toList.all fun f => (P.info? f.type).isSome | _ => true
      if fine && decide (i.bytes ≤ 1048576) then
      some { k := match d with | .struct _ => 0 | .array .. => 1 | .slice _ => 2 | .string => 3 | .bool => 5 | _ => 4, size := i.size,
             agg := match d with | .struct _ | .array .. => true | _ => false, zero := z.cells.toList,
             flds := match d with | .struct fs => fs.toList.map (fun f => (f.offset, P.cellsOf f.type, f.type)) | _ => [],
             elem := match d with | .array _ e | .slice e => e | _ => 0, len := match d with | .array n _ => n | _ => 0,
             ik := match d with | .int k => some k | _ => none,
             eqs := match d with | .struct _ | .array .. => if P.eqGuardType P.depth t then none else leaves P 8 t | _ => none }
      else none
    | none => none
  | _, _ => none

theorem mkTI_ok {P : Program} {t : TypeId} {ti : TI} (h : mkTI P t = some ti) : TIok P t ti := by
  unfold mkTI at h
  split at h
  case h_2 => cases h
  rename_i i d hi hd
  split at h
  case h_2 => cases h
  rename_i z hz
  simp only [] at h
  have ht : ∀ w, (typeInfo t).run P w = .ok i w := fun w => by simp [typeInfo, hi]
  have hu : ∀ w, (underlying t).run P w = .ok d w := run_und hd
  cases d with
  | struct fs =>
    simp only [] at h
    split at h
    case isFalse => cases h
    rename_i hfine
    simp only [Option.some.injEq] at h
    simp only [Bool.and_eq_true, decide_eq_true_eq] at hfine
    obtain ⟨hfine, hby⟩ := hfine
    subst h
    refine ⟨fun w => by simp [sizeOf, ht], fun w => by simp only [isAgg, Sem.run_bind, hu, Result.andThen_ok]; rfl, fun w => ⟨z, by simp [zeroValue, ht, hz], rfl⟩, fun _ => ⟨fs, hd, rfl, fun f hf w => ?_⟩, fun hk => by simp at hk, fun hk => by simp at hk, fun hk => by simp at hk, fun kd hk => by simp at hk, ⟨_, hd⟩, fun hk => by simp at hk, fun L hL => ?_, ⟨i, z, hi, hz, rfl, rfl, hby⟩⟩
    rotate_left
    · simp only at hL
      split at hL
      · cases hL
      · rename_i hg; exact ⟨hL, by simpa using hg, .inl ⟨fs, hd⟩⟩
    simp only [List.all_eq_true] at hfine
    obtain ⟨j, hj⟩ := Option.isSome_iff_exists.1 (hfine f hf)
    simp [sizeOf, typeInfo, hj, Program.cellsOf]
  | _ =>
    simp only [Bool.true_and] at h
    split at h
    case isFalse => cases h
    rename_i hby
    simp only [decide_eq_true_eq] at hby
    simp only [Option.some.injEq] at h
    subst h
    exact ⟨fun w => by simp [sizeOf, ht], fun w => by simp only [isAgg, Sem.run_bind, hu, Result.andThen_ok]; rfl, fun w => ⟨z, by simp [zeroValue, ht, hz], rfl⟩, fun hk => by simp at hk, fun hk => by first | exact hd | simp at hk, fun hk => by first | exact hd | simp at hk, fun hk => by first | exact hd | simp at hk, fun kd hk => by first | (simp at hk; subst hk; exact hd) | simp at hk, ⟨_, hd⟩, fun hk => by first | exact hd | simp at hk, fun L hL => by first | cases hL | (simp only at hL; split at hL; cases hL; rename_i hg; exact ⟨hL, by simpa using hg, .inr ⟨_, _, hd⟩⟩), ⟨i, z, hi, hz, rfl, rfl, hby⟩⟩

abbrev Tb := List (Nat × TI)
def TOk (P : Program) (T : Tb) : Prop := T.map (fun q => mkTI P q.1) = T.map fun q => some q.2
theorem lookup_mem {α : Type} : ∀ {T : List (Nat × α)} {t : Nat} {ti : α}, T.lookup t = some ti → (t, ti) ∈ T
  | (a, b) :: T, t, ti, h => by
    simp only [List.lookup] at h
    split at h
    · rename_i e; simp at e h; subst e; subst h; exact List.mem_cons_self
    · exact List.mem_cons_of_mem _ (lookup_mem h)
theorem TOk.ok {P : Program} {T : Tb} (h : TOk P T) {t : Nat} {ti : TI} (hl : T.lookup t = some ti) : TIok P t ti := by
  have hm := lookup_mem hl
  have : ∀ q ∈ T, mkTI P q.1 = some q.2 := by
    unfold TOk at h
    intro q hq
    have := List.map_inj_left.1 h
    exact this q hq
  exact mkTI_ok (this _ hm)

/-! ### Operands -/
def ofV : Value → TV
  | .agg cs => .agg (cs.toList.map .v)
  | v => .c (.v v)
theorem denL_v (β : Bl) : ∀ l : List Value, denL β (l.map CV.v) = some l
  | [] => rfl
  | x :: l => by simp [denL, CV.den, denL_v β l]
theorem ofV_den (β : Bl) (v : Value) : (ofV v).den β = some v := by
  cases v <;> simp [ofV, TV.den, CV.den, denL_v]

def AV.tv : AV → Option TV
  | .t x => some x
  | .kb b => some (.c (.v (.bool b)))
  | .tup _ => none
def gget (d gt : Nat) (want : Bool) : List (Nat × Nat × Bool × TV) → Option TV
  | [] => none
  | (d', gt', want', x) :: l => if d' = d ∧ gt' = gt ∧ want' = want then some x else gget d gt want l
def ev (st : St) (g : Option (Nat × Bool)) : Operand → Option TV
  | .tmp d => match st.t.lookup d with
    | some av => av.tv
    | none => match g with | some (gt, want) => gget d gt want st.g | none => none
  | .const v => some (ofV v)
  | .global g => some (.c (.v (.pointer (some ⟨g, 0, none⟩))))
  | .func f => some (.c (.fn f []))

theorem gget_mem {d gt : Nat} {want : Bool} {x : TV} : ∀ {l : List (Nat × Nat × Bool × TV)}, gget d gt want l = some x → (d, gt, want, x) ∈ l
  | (d', gt', want', y) :: l, h => by
    simp only [gget] at h
    split at h
    · rename_i e; obtain ⟨rfl, rfl, rfl⟩ := e; cases h; exact List.mem_cons_self
    · exact List.mem_cons_of_mem _ (gget_mem h)
theorem AV.tv_den {β : Bl} {av : AV} {x : TV} {v : Value} (h : av.tv = some x) (hv : av.is β v) : x.den β = some v := by
  cases av <;> simp only [AV.tv, Option.some.injEq] at h
  · subst h; exact hv
  · subst h; cases hv; rfl
  · cases h
def GdOk (g : Option (Nat × Bool)) (a : Act) : Prop := ∀ gt want, g = some (gt, want) → a.tmps.getD gt undef = .bool want
theorem ev_den {β : Bl} {st : St} {a : Act} (r : Rel β st a) {g : Option (Nat × Bool)} (hg : GdOk g a) {o : Operand} {x : TV} (h : ev st g o = some x) :
    x.den β = some (a.eval o) := by
  cases o with
  | const v => simp only [ev, Option.some.injEq] at h; subst h; exact ofV_den _ _
  | global g => simp only [ev, Option.some.injEq] at h; subst h; rfl
  | func f => simp only [ev, Option.some.injEq] at h; subst h; rfl
  | tmp d =>
    simp only [ev] at h
    split at h
    · rename_i av hl; exact AV.tv_den h (r.tm d av hl).2
    · split at h
      · rename_i gt want; exact r.gd _ (gget_mem h) (hg gt want rfl)
      · cases h

/-! ### What an operation does -/
inductive XR where
  | val (av : AV)
  | box (cs : List CV)
  | row (cs : List CV) (len : Nat)
  | st (k off : Nat) (cs : List CV)

def TV.cells : TV → List CV
  | .c x => [x]
  | .agg xs => xs
def CV.plain : CV → Bool
  | .v (.agg _) | .v (.tuple _) => false
  | _ => true

/-- the operations on numbers, as a parameter of the run: so that what evaluates a run opens none of them -/
structure Ops where
  wrap : IntKind → Int → Int
  add : IntKind → Int → Int → Int
  sub : IntKind → Int → Int → Int
  mul : IntKind → Int → Int → Int
  band : IntKind → Int → Int → Int
  bor : IntKind → Int → Int → Int
  bxor : IntKind → Int → Int → Int
  bandn : IntKind → Int → Int → Int
  eq : Int → Int → Bool
  ne : Int → Int → Bool
  lt : Int → Int → Bool
  le : Int → Int → Bool
  and : Bool → Bool → Bool
  or : Bool → Bool → Bool
  not : Bool → Bool
  beq : Bool → Bool → Bool
  seq : ByteArray → ByteArray → Bool
  max : Int → Int → Int
  min : Int → Int → Int
  cast : Nat → Int
  ssize : ByteArray → Int
  aadd : Addr → Nat → Addr
  isnil : Option Addr → Bool
  quo : IntKind → Int → Int → Int
  rem : IntKind → Int → Int → Int
  shl : IntKind → Int → Int → Int
  shr : IntKind → Int → Int → Int
def Ops.std : Ops where
  wrap k n := k.wrap n
  add k a b := k.wrap (a + b)
  sub k a b := k.wrap (a - b)
  mul k a b := k.wrap (a * b)
  band k a b := k.wrap (BitVec.ofInt k.bits a &&& BitVec.ofInt k.bits b).toNat
  bor k a b := k.wrap (BitVec.ofInt k.bits a ||| BitVec.ofInt k.bits b).toNat
  bxor k a b := k.wrap (BitVec.ofInt k.bits a ^^^ BitVec.ofInt k.bits b).toNat
  bandn k a b := k.wrap (BitVec.ofInt k.bits a &&& ~~~BitVec.ofInt k.bits b).toNat
  eq a b := a == b
  ne a b := a != b
  lt a b := decide (a < b)
  le a b := decide (a ≤ b)
  and a b := a && b
  or a b := a || b
  not a := !a
  beq a b := a == b
  seq x y := x.toList == y.toList
  max a b := if b > a then b else a
  min a b := if b < a then b else a
  cast n := (n : Int)
  ssize s := (s.size : Int)
  aadd a n := a.add n
  isnil a := a.isNone
  quo k a b := k.wrap (a.tdiv b)
  rem _ a b := a.tmod b
  shl k a b := k.wrap (a * 2 ^ (Nat.min b.toNat k.bits))
  shr k a b := a.fdiv (2 ^ (Nat.min b.toNat k.bits))

def xint (O : Ops) (op : BinOp) (k : IntKind) (a b : Int) : Option Value :=
  match op with
  | .add => some (.int k (O.add k a b))
  | .sub => some (.int k (O.sub k a b))
  | .mul => some (.int k (O.mul k a b))
  | .and => some (.int k (O.band k a b))
  | .or => some (.int k (O.bor k a b))
  | .xor => some (.int k (O.bxor k a b))
  | .andNot => some (.int k (O.bandn k a b))
  | .eql => some (.bool (O.eq a b))
  | .neq => some (.bool (O.ne a b))
  | .lss => some (.bool (O.lt a b))
  | .leq => some (.bool (O.le a b))
  | .gtr => some (.bool (O.lt b a))
  | .geq => some (.bool (O.le b a))
  | _ => none
def xstr (O : Ops) (op : BinOp) (x y : ByteArray) : Option Value :=
  match op with
  | .eql => some (.bool (O.seq x y))
  | .neq => some (.bool (O.not (O.seq x y)))
  | _ => none
def xbin (O : Ops) (ti : TI) (op : BinOp) (x y : Value) : Option Value :=
  match x, y with
  | .int k a, .int k' b => if k = k' then xint O op k a b else none
  | .string a, .string b => xstr O op a b
  | .bool a, .bool b => if ti.k = 5 then (match op with | .eql => some (.bool (O.beq a b)) | .neq => some (.bool (O.not (O.beq a b))) | _ => none) else none
  | .slice a _ _, .slice none _ _ => if ti.k = 2 then (match op with | .eql => some (.bool (O.isnil a)) | .neq => some (.bool (O.not (O.isnil a))) | _ => none) else none
  | _, _ => none

theorem xbin_sound {P : Program} {T : Tb} (hT : TOk P T) {t : Nat} {ti : TI} (ht : T.lookup t = some ti) {op : BinOp} {x y : Operand} {u v r : Value} (h : xbin Ops.std ti op u v = some r) (w : World) :
    ((do eqGuard op t x y u v; binOp op t u v : Sem Value)).run P w = .ok r w := by
  have ok := hT.ok ht
  unfold xbin at h
  split at h
  · rename_i k a k' b
    split at h
    case isFalse => cases h
    rename_i e; subst e
    cases op <;> simp [xint] at h <;> subst h <;> simp [eqGuard, binOp, Op.intArith, Op.intBits, Op.intCmp, Ops.std]
  · cases op <;> simp [xstr] at h <;> subst h <;> simp [eqGuard, binOp, Op.stringOp, Ops.std]
  · rename_i a b
    split at h
    case isFalse => cases h
    rename_i hk
    have hu := ok.bool hk
    cases op <;> simp only [Option.some.injEq] at h <;> first | cases h | skip
    · have e : (eqGuard .eql t x y (.bool a) (.bool b)).run P w = .ok () w := by simp [eqGuard]
      simp only [Sem.run_bind, e, Result.andThen_ok]
      exact run_eql_bool w t a b hu
    · have e : (eqGuard .neq t x y (.bool a) (.bool b)).run P w = .ok () w := by simp [eqGuard]
      simp only [Sem.run_bind, e, Result.andThen_ok]
      exact run_neq_bool w t a b hu
  · rename_i a n c n' c'
    split at h
    case isFalse => cases h
    rename_i hk
    have hu := ok.sl hk
    have hE : ∀ d, (Op.equalIn (d + 1) t (.slice a n c) (.slice none n' c')).run P w = .ok a.isNone w := fun d => by cases a <;> simp [Op.equalIn, run_underlying hu]
    cases op <;> simp only [Option.some.injEq] at h <;> first | cases h | skip
    · have e : (eqGuard .eql t x y (.slice a n c) (.slice none n' c')).run P w = .ok () w := by simp [eqGuard]
      simp only [Sem.run_bind, e, Result.andThen_ok]
      simp only [binOp]
      simp [Op.equal, Op.maxDepth, hE 9999, Ops.std]
    · have e : (eqGuard .neq t x y (.slice a n c) (.slice none n' c')).run P w = .ok () w := by simp [eqGuard]
      simp only [Sem.run_bind, e, Result.andThen_ok]
      simp only [binOp]
      simp [Op.equal, Op.maxDepth, hE 9999, Ops.std]
  · cases h

/-- a divisor, or a shift, that is a constant -/
def xdiv (O : Ops) (op : BinOp) (a : Value) (y : Operand) : Option Value :=
  match op, a, y with
  | .quo, .int k a, .const (.int k' m) => if k = k' ∧ m ≠ 0 then some (.int k (O.quo k a m)) else none
  | .rem, .int k a, .const (.int k' m) => if k = k' ∧ m ≠ 0 then some (.int k (O.rem k a m)) else none
  | .shl, .int k a, .const (.int _ m) => if 0 ≤ m then some (.int k (O.shl k a m)) else none
  | .shr, .int k a, .const (.int _ m) => if 0 ≤ m then some (.int k (O.shr k a m)) else none
  | _, _, _ => none
theorem xdiv_sound {P : Program} {t : Nat} {op : BinOp} {x y : Operand} {u v r : Value} (h : xdiv Ops.std op u y = some r) (hy : ∀ c, y = .const c → v = c) (w : World) :
    ((do eqGuard op t x y u v; binOp op t u v : Sem Value)).run P w = .ok r w := by
  unfold xdiv at h
  split at h
  case h_5 => cases h
  all_goals
    split at h
    case isFalse => cases h
    rename_i hc
    have hv := hy _ rfl
    subst hv
    first
      | (obtain ⟨e, hm⟩ := hc; subst e; cases h; simp [eqGuard, binOp, Op.intDiv, Ops.std, hm])
      | (cases h; simp [eqGuard, binOp, Op.shift, Ops.std, show ¬ (_ < (0 : Int)) from Int.not_lt.2 hc])

def cvEq (O : Ops) : Nat → CV → CV → Option Bool
  | 0, .v (.bool a), .v (.bool b) => some (O.beq a b)
  | 1, .v (.int k a), .v (.int k' b) => if k = k' then some (O.eq a b) else none
  | 2, .v (.string a), .v (.string b) => some (O.seq a b)
  | _, _, _ => none
def xeqAll (O : Ops) : List (Nat × Nat) → List CV → List CV → Option Bool
  | [], _, _ => some true
  | p :: L, xs, ys => match xs[p.1]?, ys[p.1]?, xeqAll O L xs ys with
    | some u, some v, some r => (cvEq O p.2 u v).map fun b => O.and b r
    | _, _, _ => none
def xeq (O : Ops) (ti : TI) (op : BinOp) (xs ys : List CV) : Option Value :=
  match ti.eqs with
  | some L => match op, xeqAll O L xs ys with
    | .eql, some b => some (.bool b)
    | .neq, some b => some (.bool (O.not b))
    | _, _ => none
  | none => none
theorem cvEq_ok {β : Bl} {k : Nat} {u v : CV} {a c : Value} {b : Bool} (h : cvEq Ops.std k u v = some b) (hu : u.den β = some a) (hv : v.den β = some c) : leafEq k a c = some b := by
  unfold cvEq at h
  split at h
  case h_4 => cases h
  all_goals (simp only [CV.den, Option.some.injEq] at hu hv; subst hu; subst hv; simpa [leafEq, Ops.std] using h)
theorem xeqAll_ok {β : Bl} : ∀ {L : List (Nat × Nat)} {xs ys : List CV} {a c : List Value} {b : Bool}, xeqAll Ops.std L xs ys = some b → denL β xs = some a → denL β ys = some c → eqAll L a c = some b
  | [], xs, ys, a, c, b, h, _, _ => h
  | p :: L, xs, ys, a, c, b, h, ha, hc => by
    simp only [xeqAll] at h
    split at h
    case h_2 => cases h
    rename_i u v r hu hv hr
    simp only [Option.map_eq_some_iff] at h
    obtain ⟨x, hx, rfl⟩ := h
    obtain ⟨u', hu1, hu2⟩ := denL_get ha _ _ hu
    obtain ⟨v', hv1, hv2⟩ := denL_get hc _ _ hv
    simp only [eqAll, hu2, hv2, xeqAll_ok hr ha hc, cvEq_ok hx hu1 hv1, Option.map_some]
    rfl
theorem xeq_sound {P : Program} {T : Tb} (hT : TOk P T) {t : Nat} {ti : TI} (ht : T.lookup t = some ti) {op : BinOp} {x y : Operand} {β : Bl} {xs ys : List CV} {a c : List Value} {r : Value} (h : xeq Ops.std ti op xs ys = some r)
    (ha : denL β xs = some a) (hc : denL β ys = some c) (w : World) :
    ((do eqGuard op t x y (.agg a.toArray) (.agg c.toArray); binOp op t (.agg a.toArray) (.agg c.toArray) : Sem Value)).run P w = .ok r w := by
  have ok := hT.ok ht
  unfold xeq at h
  split at h
  case h_2 => cases h
  rename_i L hL
  obtain ⟨h1, h2, h3⟩ := ok.eqs L hL
  split at h
  case h_3 => cases h
  · rename_i b hb
    cases h
    exact (eql_agg 9992 (d := 7) rfl h1 h3 h2 _ _ b (by simpa using xeqAll_ok hb ha hc) x y w).1
  · rename_i b hb
    cases h
    exact (eql_agg 9992 (d := 7) rfl h1 h3 h2 _ _ b (by simpa using xeqAll_ok hb ha hc) x y w).2
end Go.Sx
