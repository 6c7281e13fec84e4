/- A symbolic executor over the model's wp, part 3: one operation, what it does. -/
import Derived.Test.YtkmplcpibgnjcaaSx2
namespace Go.Sx
open Go.RowKit

def spl {α : Type} (cs : List α) (off : Nat) (new : List α) : List α := cs.take off ++ new ++ cs.drop (off + new.length)
def fillC (place : Nat → Option (Nat × Nat)) (cells : List CV) : List (Nat × List CV) → Option (List CV)
  | [] => some cells
  | (i, v) :: rest => match place i with
    | none => none
    | some (off, size) => if v.length = size ∧ off + v.length ≤ cells.length then fillC place (spl cells off v) rest else none

theorem foldl_set : ∀ (vs : List Value) (n off : Nat) (cells : Array Value), off + n + vs.length ≤ cells.size →
    ((vs.zipIdx n).foldl (fun (cs : Array Value) (p : Value × Nat) => cs.setIfInBounds (off + p.2) p.1) cells).toList = cells.toList.take (off + n) ++ vs ++ cells.toList.drop (off + n + vs.length)
  | [], n, off, cells, _ => by simp
  | v :: vs, n, off, cells, h => by
    simp only [List.zipIdx_cons, List.foldl_cons]
    rw [foldl_set vs (n + 1) off _ (by simp at h ⊢; omega)]
    simp only [Array.toList_setIfInBounds, List.length_cons] at h ⊢
    have hl : off + n < cells.toList.length := by simp; omega
    have e1 : (cells.toList.set (off + n) v).take (off + (n + 1)) = cells.toList.take (off + n) ++ [v] := by
      rw [show off + (n + 1) = off + n + 1 by omega, List.take_add_one]
      rw [List.take_set_of_le (by omega), List.getElem?_set_self hl]
      rfl
    rw [e1, List.drop_set_of_lt (by omega)]
    rw [show off + (n + 1) + vs.length = off + n + (vs.length + 1) by omega]
    simp

theorem denL_append {β : Bl} : ∀ {xs ys : List CV} {a b : List Value}, denL β xs = some a → denL β ys = some b → denL β (xs ++ ys) = some (a ++ b)
  | [], ys, a, b, h, h' => by cases h; exact h'
  | x :: xs, ys, a, b, h, h' => by
    simp only [denL, Option.bind_eq_some_iff, Option.map_eq_some_iff, List.cons_append] at h ⊢
    obtain ⟨v, hv, r, hr, rfl⟩ := h
    exact ⟨v, hv, r ++ b, denL_append hr h', rfl⟩
theorem denL_take {β : Bl} : ∀ {xs : List CV} {a : List Value} (n : Nat), denL β xs = some a → denL β (xs.take n) = some (a.take n)
  | [], a, n, h => by cases h; simp [denL]
  | x :: xs, a, 0, h => by simp [denL]
  | x :: xs, a, n + 1, h => by
    simp only [denL, Option.bind_eq_some_iff, Option.map_eq_some_iff, List.take_succ_cons] at h ⊢
    obtain ⟨v, hv, r, hr, rfl⟩ := h
    exact ⟨v, hv, r.take n, denL_take n hr, rfl⟩
theorem denL_drop {β : Bl} : ∀ {xs : List CV} {a : List Value} (n : Nat), denL β xs = some a → denL β (xs.drop n) = some (a.drop n)
  | [], a, n, h => by cases h; simp [denL]
  | x :: xs, a, 0, h => by simpa using h
  | x :: xs, a, n + 1, h => by
    simp only [denL, Option.bind_eq_some_iff, Option.map_eq_some_iff] at h
    obtain ⟨v, hv, r, hr, rfl⟩ := h
    simpa using denL_drop n hr
theorem denL_spl {β : Bl} {xs ys : List CV} {a b : List Value} {off : Nat} (h : denL β xs = some a) (h' : denL β ys = some b) : denL β (spl xs off ys) = some (spl a off b) := by
  unfold spl
  rw [← denL_length h']
  exact denL_append (denL_append (denL_take _ h) h') (denL_drop _ h)

/-- 'fill' of the model -/
theorem fill_ok {β : Bl} {place : Nat → Option (Nat × Nat)} : ∀ {parts : List (Nat × List CV)} {cs cs' : List CV} {a : Array Value} {pv : List (Nat × Value)},
    fillC place cs parts = some cs' → denL β cs = some a.toList → List.length parts = pv.length → (∀ (i : Nat) (x : Nat × List CV) (y : Nat × Value), parts[i]? = some x → pv[i]? = some y → x.1 = y.1 ∧ denL β x.2 = some y.2.cells.toList) →
    ∃ a', Instr.fill place a pv = some a' ∧ denL β cs' = some a'.toList
  | [], cs, cs', a, [], h, hd, _, _ => by cases h; exact ⟨a, rfl, hd⟩
  | (i, v) :: parts, cs, cs', a, (j, u) :: pv, h, hd, hl, hp => by
    obtain ⟨e, hv⟩ := hp 0 _ _ rfl rfl
    simp only at e hv; subst e
    simp only [fillC] at h
    split at h
    · cases h
    · rename_i off size hpl
      split at h
      case isFalse => cases h
      rename_i hc
      have l1 := denL_length hv
      have l2 := denL_length hd
      simp only [Array.length_toList] at l1 l2
      have hf : ((u.cells.zipIdx.foldl (fun cs (c, j) => cs.setIfInBounds (off + j) c) a).toList) = spl a.toList off u.cells.toList := by
        rw [← Array.foldl_toList, Array.toList_zipIdx]
        have := foldl_set u.cells.toList 0 off a (by simp; omega)
        simpa [spl] using this
      obtain ⟨a', h1, h2⟩ := fill_ok (pv := pv) (a := u.cells.zipIdx.foldl (fun cs (c, j) => cs.setIfInBounds (off + j) c) a) h (by rw [hf]; exact denL_spl hd hv) (by simpa using hl) (fun k x y hx hy => hp (k + 1) x y (by simpa using hx) (by simpa using hy))
      refine ⟨a', ?_, h2⟩
      simp only [Instr.fill, hpl]
      rw [if_neg]
      · exact h1
      · simp only [Bool.or_eq_true, decide_eq_true_eq]; omega

def XRok (P : Program) (β : Bl) (bx : List (List CV)) (ρ : Operand → Value) (o : Oper) : XR → Prop
  | .val av => ∃ v, av.is β v ∧ ∀ w, BxHold β bx w → (execOp ρ o).run P w = .ok (.value v) w
  | .box cs => ∃ vs t, denL β cs = some vs ∧ ∀ w, (execOp ρ o).run P w = .ok (.value (.pointer (some ⟨w.heap.size, 0, none⟩))) (w.alloc (.cells vs.toArray t))
  | .row cs len => ∃ vs t, denL β cs = some vs ∧ ∀ w, (execOp ρ o).run P w = .ok (.value (.slice (some ⟨w.heap.size, 0, none⟩) len len)) (w.alloc (.cells vs.toArray t))
  | .st k off cs => ∃ vs q old, denL β cs = some vs ∧ β[k]? = some q ∧ bx[k]? = some old ∧ off + cs.length ≤ old.length ∧
      ∀ w, BxHold β bx w → (execOp ρ o).run P w = .ok .skip (w.setCells q.1 (q.2 + off) vs)

def evParts (e : Operand → Option TV) : List (Nat × Operand) → Option (List (Nat × List CV))
  | [] => some []
  | (i, x) :: l => match e x, evParts e l with
    | some y, some r => if y.cells.all CV.plain then some ((i, y.cells) :: r) else none
    | _, _ => none

def xload (ti : TI) (cs : List CV) (off : Nat) : Option TV :=
  if ti.agg then (if off + ti.size ≤ cs.length then some (.agg ((cs.drop off).take ti.size)) else none) else (cs[off]?).map .c
def xlen (O : Ops) (ti : TI) : TV → Option Value
  | .c (.v (.slice _ n _)) => if ti.k = 2 then some (.int .i64 (O.cast n)) else none
  | .c (.sl _ _ n _) => if ti.k = 2 then some (.int .i64 (O.cast n)) else none
  | .c (.v (.string s)) => if ti.k = 3 then some (.int .i64 (O.ssize s)) else none
  | _ => none
def xcap (O : Ops) (ti : TI) : TV → Option Value
  | .c (.v (.slice _ _ n)) => if ti.k = 2 then some (.int .i64 (O.cast n)) else none
  | _ => none
def allP : List TV → Option (List (Nat × Nat))
  | [] => some []
  | .c (.p k off) :: l => (allP l).map fun r => (k, off) :: r
  | _ => none
def mapO (e : Operand → Option TV) : List Operand → Option (List TV)
  | [] => some []
  | x :: l => match e x, mapO e l with | some y, some r => some (y :: r) | _, _ => none
def val1 (v : Value) : XR := .val (.t (.c (.v v)))

def xrow (T : Tb) (e : Operand → Option TV) (t : TypeId) (len : Nat) (parts : List (Nat × Operand)) : Option (List CV) :=
  match T.lookup t, evParts e parts with
  | some ti, some ps => if ti.k = 2 then match T.lookup ti.elem with
    | some te => if len * te.size ≤ 65536 ∧ te.zero.length = te.size ∧ 0 < te.size then
        fillC (fun i => some (i * te.size, te.size)) ((List.replicate len te.zero).flatten.map .v) ps else none
    | none => none
    else none
  | _, _ => none

def xop (O : Ops) (T : Tb) (e : Operand → Option TV) (bx : List (List CV)) : Op → Option XR
  | .move x | .assign x => (e x).map fun y => .val (.t y)
  | .alloc t => (T.lookup t).map fun ti => .box (ti.zero.map .v)
  | .box _ x => match e x with | some y => if y.cells.all CV.plain then some (.box y.cells) else none | none => none
  | .build t parts => match T.lookup t, evParts e parts.toList with
    | some ti, some ps => if ti.k = 0 then (fillC (fun i => (ti.flds[i]?).map fun f => (f.1, f.2.1)) (ti.zero.map .v) ps).map fun cs => .val (.t (.agg cs)) else none
    | _, _ => none
  | .load t a => match T.lookup t, e a with
    | some ti, some (.c (.p k off)) => match bx[k]? with
      | some cs => (xload ti cs off).map fun y => .val (.t y)
      | none => none
    | _, _ => none
  | .store t a x => match T.lookup t, e a, e x with
    | some ti, some (.c (.p k off)), some y => match bx[k]? with
      | some old => if y.cells.length = ti.size ∧ off + y.cells.length ≤ old.length ∧ y.cells.all CV.plain then some (.st k off y.cells) else none
      | none => none
    | _, _, _ => none
  | .nilCheck x => match e x with
    | some (.c (.p k off)) => some (.val (.t (.c (.p k off))))
    | some (.c (.v (.pointer (some a)))) => some (val1 (.pointer (some a)))
    | some (.c (.fn f cs)) => some (.val (.t (.c (.fn f cs))))
    | _ => none
  | .binOp op t x y _ => match T.lookup t, e x, e y with
    | some ti, some (.c (.v a)), some (.c (.v b)) => match xdiv O op a y with
      | some v => some (val1 v)
      | none => (xbin O ti op a b).map val1
    | some ti, some (.agg a), some (.agg b) => (xeq O ti op a b).map val1
    | _, _, _ => none
  | .unOp op _ x => match op, e x with
    | .not, some (.c (.v (.bool b))) => some (val1 (.bool (O.not b)))
    | .neg, some (.c (.v (.int k n))) => some (val1 (.int k (O.sub k 0 n)))
    | _, _ => none
  | .convert src dst x => match T.lookup src, T.lookup dst, e x with
    | some _, some td, some (.c (.v (.int _ n))) => td.ik.map fun k => val1 (.int k (O.wrap k n))
    | _, _, _ => none
  | .makeFunc (.func f) first captured => match first.toList, mapO e captured.toList with
    | [], some xs => (allP xs).map fun cs => .val (.t (.c (.fn f cs)))
    | _, _ => none
  | .fieldAddr s x f => match T.lookup s, e x with
    | some ti, some (.c (.p k off)) => if ti.k = 0 then match ti.flds[f]? with
      | some fd => if fd.2.1 = 0 then none else some (.val (.t (.c (.p k (off + fd.1)))))
      | none => none
      else none
    | some ti, some (.c (.v (.pointer (some a)))) => if ti.k = 0 then match ti.flds[f]? with
      | some fd => if fd.2.1 = 0 then none else some (val1 (.pointer (some (O.aadd a fd.1))))
      | none => none
      else none
    | _, _ => none
  | .field s x f => match T.lookup s, e x with
    | some ti, some (.agg xs) => if ti.k = 0 then match ti.flds[f]? with
      | some fd => match T.lookup fd.2.2 with
        | some tf => if tf.size = fd.2.1 then (xload tf xs fd.1).map fun y => .val (.t y) else none
        | none => none
      | none => none
      else none
    | _, _ => none
  | .indexAddr t x i => match T.lookup t, e x, i with
    | some ti, some (.c (.p k off)), .const (.int _ n) => if ti.k = 1 ∧ 0 ≤ n ∧ n < ti.len then match T.lookup ti.elem with
      | some te => some (.val (.t (.c (.p k (off + n.toNat * te.size)))))
      | none => none
      else none
    | _, _, _ => none
  | .call { callee := .builtin b, args, argTypes } => match b, args.toList, argTypes.toList with
    | .len, [x], [t] => match T.lookup t, e x with | some ti, some y => (xlen O ti y).map val1 | _, _ => none
    | .cap, [x], [t] => match T.lookup t, e x with | some ti, some y => (xcap O ti y).map val1 | _, _ => none
    | .max, [x, y], _ => match e x, e y with | some (.c (.v (.int k a))), some (.c (.v (.int _ b))) => some (val1 (.int k (O.max a b))) | _, _ => none
    | .min, [x, y], _ => match e x, e y with | some (.c (.v (.int k a))), some (.c (.v (.int _ b))) => some (val1 (.int k (O.min a b))) | _, _ => none
    | _, _, _ => none
  | _ => none
end Go.Sx
