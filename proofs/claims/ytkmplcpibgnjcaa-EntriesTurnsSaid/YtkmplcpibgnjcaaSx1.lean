/- A symbolic executor over the model's wp, part 1: symbolic values, local boxes, the relation to a frame and a world. -/
import Derived.OrdersHeld
import Derived.Below
import Derived.Laws.Cells
import Derived.KernelRfl
namespace Go.Sx
open Go.RowKit

inductive CV where
  | v (x : Value)
  | p (k off : Nat)
  | pa (k off i : Nat)
  | sl (k off len cap : Nat)
  | fn (f : FuncId) (caps : List (Nat × Nat))
inductive TV where
  | c (x : CV)
  | agg (xs : List CV)
inductive AV where
  | t (x : TV)
  | kb (b : Bool)
  | tup (xs : List TV)

/-- blocks and offsets of the local boxes, in their order -/
abbrev Bl := List (Nat × Nat)

def adr (β : Bl) (k off : Nat) : Option Addr := (β[k]?).map fun q => ⟨q.1, q.2 + off, none⟩
def capsDen (β : Bl) : List (Nat × Nat) → Option (List Value)
  | [] => some []
  | q :: l => (adr β q.1 q.2).bind fun a => (capsDen β l).map fun r => .pointer (some a) :: r
def CV.den (β : Bl) : CV → Option Value
  | .v x => some x
  | .p k off => (adr β k off).map fun a => .pointer (some a)
  | .pa k off i => (adr β k (off + i)).map fun a => .pointer (some a)
  | .sl k off len cap => (adr β k off).map fun a => .slice (some a) len cap
  | .fn f caps => (capsDen β caps).map fun cs => .func (.func f) #[] cs.toArray
def denL (β : Bl) : List CV → Option (List Value)
  | [] => some []
  | x :: l => (x.den β).bind fun a => (denL β l).map fun r => a :: r
def TV.den (β : Bl) : TV → Option Value
  | .c x => x.den β
  | .agg xs => (denL β xs).map fun l => .agg l.toArray
def tvsDen (β : Bl) : List TV → Option (List Value)
  | [] => some []
  | x :: l => (x.den β).bind fun a => (tvsDen β l).map fun r => a :: r
def AV.is (β : Bl) : AV → Value → Prop
  | .t x, v => x.den β = some v
  | .kb b, v => v = .bool b
  | .tup xs, v => ∃ l, tvsDen β xs = some l ∧ v = .tuple l.toArray

section mono
variable {β l : Bl}
theorem adr_mono {k off : Nat} {a : Addr} (h : adr β k off = some a) : adr (β ++ l) k off = some a := by
  unfold adr at *
  cases hk : β[k]? with
  | none => rw [hk] at h; cases h
  | some q =>
    have hlt : k < β.length := (List.getElem?_eq_some_iff.1 hk).1
    rw [List.getElem?_append_left hlt, hk]; rw [hk] at h; exact h
theorem capsDen_mono : ∀ {cs : List (Nat × Nat)} {r : List Value}, capsDen β cs = some r → capsDen (β ++ l) cs = some r
  | [], _, h => h
  | q :: cs, r, h => by
    simp only [capsDen, Option.bind_eq_some_iff, Option.map_eq_some_iff] at h ⊢
    obtain ⟨a, ha, r', hr, rfl⟩ := h
    exact ⟨a, adr_mono ha, r', capsDen_mono hr, rfl⟩
theorem CV.den_mono {x : CV} {v : Value} (h : x.den β = some v) : x.den (β ++ l) = some v := by
  cases x <;> simp only [CV.den, Option.map_eq_some_iff] at h ⊢
  case v => exact h
  case fn => obtain ⟨a, ha, rfl⟩ := h; exact ⟨a, capsDen_mono ha, rfl⟩
  all_goals (obtain ⟨a, ha, rfl⟩ := h; exact ⟨a, adr_mono ha, rfl⟩)
theorem denL_mono : ∀ {xs : List CV} {r : List Value}, denL β xs = some r → denL (β ++ l) xs = some r
  | [], _, h => h
  | q :: cs, r, h => by
    simp only [denL, Option.bind_eq_some_iff, Option.map_eq_some_iff] at h ⊢
    obtain ⟨a, ha, r', hr, rfl⟩ := h
    exact ⟨a, CV.den_mono ha, r', denL_mono hr, rfl⟩
theorem TV.den_mono {x : TV} {v : Value} (h : x.den β = some v) : x.den (β ++ l) = some v := by
  cases x with
  | c x => exact CV.den_mono h
  | agg xs => simp only [TV.den, Option.map_eq_some_iff] at h ⊢; obtain ⟨a, ha, rfl⟩ := h; exact ⟨a, denL_mono ha, rfl⟩
theorem tvsDen_mono : ∀ {xs : List TV} {r : List Value}, tvsDen β xs = some r → tvsDen (β ++ l) xs = some r
  | [], _, h => h
  | q :: cs, r, h => by
    simp only [tvsDen, Option.bind_eq_some_iff, Option.map_eq_some_iff] at h ⊢
    obtain ⟨a, ha, r', hr, rfl⟩ := h
    exact ⟨a, TV.den_mono ha, r', tvsDen_mono hr, rfl⟩
theorem AV.is_mono {x : AV} {v : Value} (h : x.is β v) : x.is (β ++ l) v := by
  cases x with
  | t x => exact TV.den_mono h
  | kb b => exact h
  | tup xs => obtain ⟨r, hr, e⟩ := h; exact ⟨r, tvsDen_mono hr, e⟩
end mono

theorem denL_length {β : Bl} : ∀ {xs : List CV} {r : List Value}, denL β xs = some r → r.length = xs.length
  | [], r, h => by cases h; rfl
  | x :: xs, r, h => by
    simp only [denL, Option.bind_eq_some_iff, Option.map_eq_some_iff] at h
    obtain ⟨a, _, r', hr, rfl⟩ := h
    simp [denL_length hr]
theorem denL_get {β : Bl} : ∀ {xs : List CV} {r : List Value}, denL β xs = some r → ∀ (i : Nat) (x : CV), xs[i]? = some x → ∃ v, x.den β = some v ∧ r[i]? = some v
  | [], r, h, i, x, hx => by simp at hx
  | y :: xs, r, h, i, x, hx => by
    simp only [denL, Option.bind_eq_some_iff, Option.map_eq_some_iff] at h
    obtain ⟨a, ha, r', hr, rfl⟩ := h
    cases i with
    | zero => simp at hx; subst hx; exact ⟨a, ha, rfl⟩
    | succ i => exact denL_get hr i x (by simpa using hx)
theorem denL_some {β : Bl} : ∀ {xs : List CV}, (∀ (i : Nat) (x : CV), xs[i]? = some x → ∃ v, x.den β = some v) → ∃ r, denL β xs = some r
  | [], _ => ⟨[], rfl⟩
  | x :: xs, h => by
    obtain ⟨v, hv⟩ := h 0 x rfl
    obtain ⟨r, hr⟩ := denL_some (xs := xs) (fun i y hy => h (i + 1) y (by simpa using hy))
    exact ⟨v :: r, by simp [denL, hv, hr]⟩

structure St where
  n : Nat
  t : List (Nat × AV)
  g : List (Nat × Nat × Bool × TV)
  bx : List (List CV)

def BxHold (β : Bl) (bx : List (List CV)) (w : World) : Prop :=
  ∀ (k : Nat) (cs : List CV) (q : Nat × Nat), bx[k]? = some cs → β[k]? = some q → ∀ (i : Nat) (c : CV), cs[i]? = some c →
    ∃ x, c.den β = some x ∧ w.cell? ⟨q.1, q.2 + i, none⟩ = some x ∧ w.frozen? ⟨q.1, q.2 + i, none⟩ = false

/-- what the frame's temporaries hold -/
structure Rel (β : Bl) (st : St) (a : Act) : Prop where
  size : a.tmps.size = st.n
  tm : ∀ (d : Nat) (av : AV), st.t.lookup d = some av → d < st.n ∧ av.is β (a.tmps.getD d undef)
  gd : ∀ p ∈ st.g, a.tmps.getD p.2.1 undef = .bool p.2.2.1 → p.2.2.2.den β = some (a.tmps.getD p.1 undef)
  df : a.defers = []
  gu : ∀ p ∈ st.g, a.tmps.getD p.2.1 undef = .bool (!p.2.2.1) → a.tmps.getD p.1 undef = undef

/-- the cells that are never written any more -/
abbrev Hp := Nat → Nat → Option Value
def Hp.le (H H' : Hp) : Prop := ∀ b o v, H b o = some v → H' b o = some v
theorem Hp.le_refl' (H : Hp) : Hp.le H H := fun _ _ _ h => h
def Agree (H : Hp) (w : World) : Prop := ∀ b o v, H b o = some v → w.cell? ⟨b, o, none⟩ = some v

/-- a row that the call may still append to: its block, the elements in it, its capacity, an element's cells and type -/
structure ORow where
  b : Nat
  n : Nat
  c : Nat
  k : Nat
  e : TypeId
structure Gh where
  w0 : World
  M : Nat → Prop
  H : Hp
  H0 : Hp
  R : List ORow
  /-- what the rest of such a row holds, where it is known -/
  Z : List (Nat × List Value) := []

structure Good (G : Gh) (β : Bl) (bx : List (List CV)) (w : World) : Prop where
  os : w.os = G.w0.os
  tape : w.tape = G.w0.tape
  output : w.output = G.w0.output
  size : G.w0.heap.size ≤ w.heap.size
  old : ∀ b, b < G.w0.heap.size → ¬ G.M b → w.heap[b]? = G.w0.heap[b]?
  imm : Agree G.H w
  le0 : Hp.le G.H0 G.H
  fresh : ∀ b o, G.H0 b o = none → G.H b o ≠ none → G.w0.heap.size ≤ b ∨ G.M b
  bl : β.length = bx.length
  bh : BxHold β bx w
  bxH : ∀ q ∈ β, ∀ o, G.H q.1 o = none
  bxlt : ∀ q ∈ β, q.1 < w.heap.size ∧ (G.w0.heap.size ≤ q.1 ∨ G.M q.1)
  inj : (β.map (·.1)).Nodup
  rows : ∀ r ∈ G.R, (G.w0.heap.size ≤ r.b ∨ G.M r.b) ∧ r.b < w.heap.size ∧ (∀ o, r.n * r.k ≤ o → G.H r.b o = none) ∧ (∀ q ∈ β, q.1 ≠ r.b) ∧ r.n ≤ r.c ∧ r.c ≤ maxLen ∧
    ∃ cs, w.heap[r.b]? = some (.cells cs r.e (0, 0)) ∧ cs.size = r.c * r.k
  rinj : (G.R.map (·.b)).Nodup
  zs : ∀ q ∈ G.Z, ∃ r ∈ G.R, r.b = q.1 ∧ ∀ cs, w.heap[r.b]? = some (.cells cs r.e (0, 0)) → cs.toList.drop (r.n * r.k) = q.2
end Go.Sx
