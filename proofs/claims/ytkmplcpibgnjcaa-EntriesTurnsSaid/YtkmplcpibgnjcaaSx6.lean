/- A symbolic executor over the model's wp, part 6: what an operation does to the state, and that the world stays good. -/
import Derived.Test.YtkmplcpibgnjcaaSx5
namespace Go.Sx
open Go.RowKit

def xmove (st : St) (g : Option (Nat × Bool)) (x : Operand) : Option AV :=
  match x with
  | .tmp d => match st.t.lookup d with
    | some av => some av
    | none => (ev st g (.tmp d)).map .t
  | .const (.bool b) => some (.kb b)
  | x => (ev st g x).map .t

def xpick (O : Ops) (st : St) (c : Tmp) (cb : Bool) (a b : Operand) : Option XR :=
  match a, b with
  | .const (.bool true), b => match ev st (some (c, false)) b with
    | some (.c (.v (.bool y))) => some (val1 (.bool (O.or cb y)))
    | _ => none
  | a, .const (.bool false) => match ev st (some (c, true)) a with
    | some (.c (.v (.bool y))) => some (val1 (.bool (O.and cb y)))
    | _ => none
  | _, _ => none

def xstep (O : Ops) (T : Tb) (st : St) (g : Option (Nat × Bool)) (o : Op) : Option XR :=
  match o with
  | .move x | .assign x => (xmove st g x).map .val
  | .extract (.tmp d) i => match st.t.lookup d with
    | some (.tup xs) => (xs[i]?).map fun y => .val (.t y)
    | _ => none
  | .pick (.tmp c) a b => match st.t.lookup c with
    | some (.kb true) => (xmove st (some (c, true)) a).map .val
    | some (.kb false) => (xmove st (some (c, false)) b).map .val
    | some (.t (.c (.v (.bool cb)))) => xpick O st c cb a b
    | _ => none
  | o => xop O T (ev st g) st.bx o

theorem tvsDen_get {β : Bl} : ∀ {xs : List TV} {r : List Value}, tvsDen β xs = some r → ∀ (i : Nat) (x : TV), xs[i]? = some x → ∃ v, x.den β = some v ∧ r[i]? = some v
  | [], r, h, i, x, hx => by simp at hx
  | y :: xs, r, h, i, x, hx => by
    simp only [tvsDen, Option.bind_eq_some_iff, Option.map_eq_some_iff] at h
    obtain ⟨a, ha, r', hr, rfl⟩ := h
    cases i with
    | zero => simp at hx; subst hx; exact ⟨a, ha, rfl⟩
    | succ i => exact tvsDen_get hr i x (by simpa using hx)

section
variable {P : Program} {T : Tb} (hT : TOk P T) {β : Bl} {st : St} {a : Act} (r : Rel β st a) {w0 : World} (hbx : BxHold β st.bx w0) (hbl : β.length = st.bx.length)

include r in
theorem xmove_ok {g : Option (Nat × Bool)} (hg : GdOk g a) {x : Operand} {av : AV} (h : xmove st g x = some av) : av.is β (a.eval x) := by
  unfold xmove at h
  split at h
  · rename_i d
    split at h
    · rename_i av' hl; cases h; exact (r.tm d _ hl).2
    · simp only [Option.map_eq_some_iff] at h
      obtain ⟨y, hy, rfl⟩ := h
      exact ev_den r hg hy
  · cases h; rfl
  · simp only [Option.map_eq_some_iff] at h
    obtain ⟨y, hy, rfl⟩ := h
    exact ev_den r hg hy

include r in
theorem xpick_ok {o : Oper} {c : Tmp} {cb : Bool} {x y : Operand} {res : XR} (hl : st.t.lookup c = some (.t (.c (.v (.bool cb))))) (ho : o.op = .pick (.tmp c) x y) (h : xpick Ops.std st c cb x y = some res) :
    XRok P β st.bx a.eval o res := by
  have hc : a.eval (.tmp c) = .bool cb := by
    have := (r.tm c _ hl).2
    simp only [AV.is, TV.den, CV.den, Option.some.injEq] at this
    exact this.symm
  have hc' : a.tmps.getD c undef = .bool cb := hc
  have hrun : ∀ w, (execOp a.eval o).run P w = .ok (.value (if cb then a.eval x else a.eval y)) w := fun w => by
    simp [execOp, ho, hc, asBool]
  unfold xpick at h
  split at h
  · split at h
    case h_2 => cases h
    rename_i u hu
    cases h
    refine val1_ok fun w => ?_
    rw [hrun]
    cases cb with
    | true => rfl
    | false =>
      have := ev_den r (g := some (c, false)) (fun gt want e => by cases e; exact hc') hu
      simp only [TV.den, CV.den, Option.some.injEq] at this
      simp [← this, Ops.std]
  · split at h
    case h_2 => cases h
    rename_i u hu
    cases h
    refine val1_ok fun w => ?_
    rw [hrun]
    cases cb with
    | false => rfl
    | true =>
      have := ev_den r (g := some (c, true)) (fun gt want e => by cases e; exact hc') hu
      simp only [TV.den, CV.den, Option.some.injEq] at this
      simp [← this, Ops.std]
  · cases h

include hT r hbx hbl in
theorem xstep_ok {g : Option (Nat × Bool)} (hg : GdOk g a) {o : Oper} {res : XR} (h : xstep Ops.std T st g o.op = some res) : XRok P β st.bx a.eval o res := by
  have hρ : ∀ x y, ev st g x = some y → y.den β = some (a.eval x) := fun x y hy => ev_den r hg hy
  generalize ho : o.op = op at h
  unfold xstep at h
  split at h
  · simp only [Option.map_eq_some_iff] at h
    obtain ⟨av, hav, rfl⟩ := h
    exact ⟨_, xmove_ok r hg hav, fun w _ => by simp [execOp, ho]⟩
  · simp only [Option.map_eq_some_iff] at h
    obtain ⟨av, hav, rfl⟩ := h
    exact ⟨_, xmove_ok r hg hav, fun w _ => by simp [execOp, ho]⟩
  · rename_i d i
    split at h
    case h_2 => cases h
    rename_i xs hl
    simp only [Option.map_eq_some_iff] at h
    obtain ⟨y, hy, rfl⟩ := h
    obtain ⟨l, hd, he⟩ := (r.tm d _ hl).2
    obtain ⟨v, hv, hgv⟩ := tvsDen_get hd i y hy
    have he' : a.eval (.tmp d) = .tuple l.toArray := he
    refine ⟨v, hv, fun w _ => ?_⟩
    simp [execOp, ho, he', Instr.extract, hgv]
  · rename_i c x y
    split at h
    · rename_i hl
      have hc : a.eval (.tmp c) = .bool true := (r.tm c _ hl).2
      simp only [Option.map_eq_some_iff] at h
      obtain ⟨av, hav, rfl⟩ := h
      exact ⟨_, xmove_ok r (g := some (c, true)) (fun gt want e => by cases e; exact hc) hav, fun w _ => by simp [execOp, ho, hc, asBool]⟩
    · rename_i hl
      have hc : a.eval (.tmp c) = .bool false := (r.tm c _ hl).2
      simp only [Option.map_eq_some_iff] at h
      obtain ⟨av, hav, rfl⟩ := h
      exact ⟨_, xmove_ok r (g := some (c, false)) (fun gt want e => by cases e; exact hc) hav, fun w _ => by simp [execOp, ho, hc, asBool]⟩
    · rename_i cb hl
      exact xpick_ok r hl ho h
    · cases h
  · have hx := h
    clear h
    cases op with
    | alloc t => exact alloc_ok hT ho hx
    | box t x => exact box_ok hρ ho hx
    | build t ps => exact build_ok hT hρ ho hx
    | load t x => exact load_ok hT hρ hbx hbl ho hx
    | store t x y => exact store_ok hT hbl hρ ho hx
    | nilCheck x => exact nilCheck_ok hρ ho hx
    | binOp op t x y t' => exact binOp_ok hT hρ (fun v => rfl) ho hx
    | unOp op t x => exact unOp_ok hρ ho hx
    | convert s d x => exact convert_ok hT hρ ho hx
    | makeFunc f x y => exact makeFunc_ok hρ ho hx
    | fieldAddr s x f => exact fieldAddr_ok hT hρ ho hx
    | field s x f => exact field_ok hT hρ ho hx
    | indexAddr t x i => exact indexAddr_ok hT hρ (fun v => rfl) ho hx
    | move x => exact move_ok hρ (.inl ho) hx
    | assign x => exact move_ok hρ (.inr ho) hx
    | call c =>
      obtain ⟨callee, args, ats⟩ := c
      cases callee with
      | builtin b => exact len_ok hT hρ ho hx
      | value f => exact nomatch (show (none : Option XR) = some res from hx)
      | invoke f m => exact nomatch (show (none : Option XR) = some res from hx)
    | _ => exact nomatch (show (none : Option XR) = some res from hx)
end
end Go.Sx
