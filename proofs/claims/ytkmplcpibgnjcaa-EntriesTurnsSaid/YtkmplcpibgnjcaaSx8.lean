/- A symbolic executor over the model's wp, part 8: code. -/
import Derived.Test.YtkmplcpibgnjcaaSxJ
namespace Go.Sx
open Go.RowKit

/-! ### Places in a body: a path, the innermost step first -/
def child : Code → Nat → Option Code
  | .seq a _, 0 => some a
  | .seq _ b, 1 => some b
  | .cond _ a _, 0 => some a
  | .cond _ _ b, 1 => some b
  | .block _ b, 0 => some b
  | .loop b, 0 => some b
  | .scope b, 0 => some b
  | .rangeFunc _ _ a _, 0 => some a
  | .rangeFunc _ _ _ b, 1 => some b
  | _, _ => none
def sub (C : Code) : List Nat → Option Code
  | [] => some C
  | i :: p => match sub C p with | some c => child c i | none => none
def regAt (C : Code) (p : List Nat) : Option (Array Oper × Bool) :=
  match sub C p with | some (.region _ ops d) => some (ops, d) | _ => none

inductive It where
  | code (p : List Nat)
  | blk (id : Nat)
  | ops (p : List Nat) (i n : Nat)
  | dr (p : List Nat) (sn : List (List CV)) (sk : List (Nat × Nat)) (H : Hp) (L : List Bool)

def Ex (Q : Exit → Act → World → Prop) (N : Act → World → Prop) (E : Nat → Act → World → Prop) : Exit → Act → World → Prop
  | .normal, a, w => N a w
  | .exit id, a, w => E id a w
  | e, a, w => Q e a w

/-- what is left to do: (normally, when a block is left by its number) -/
def both (P : Program) (C : Code) (Q : Exit → Act → World → Prop) : List It → (Act → World → Prop) × (Nat → Act → World → Prop)
  | [] => (Q .normal, fun id => Q (.exit id))
  | .blk id :: k => ((both P C Q k).1, fun i a w => if i = id then (both P C Q k).1 a w else (both P C Q k).2 i a w)
  | .code p :: k => (fun a w => ∃ c, sub C p = some c ∧ c.wp P (Ex Q (both P C Q k).1 (both P C Q k).2) a w, (both P C Q k).2)
  | .ops p i n :: k => (fun a w => match regAt C p with
      | some (ops, _) => wpOps P ops (Ex Q (both P C Q k).1 (both P C Q k).2) (List.range' i n) a w
      | none => (both P C Q k).1 a w, (both P C Q k).2)
  | .dr .. :: k => (fun _ _ => False, (both P C Q k).2)
def itsWp (P : Program) (C : Code) (Q : Exit → Act → World → Prop) (k : List It) : Act → World → Prop := (both P C Q k).1
def exWp (P : Program) (C : Code) (Q : Exit → Act → World → Prop) (k : List It) : Nat → Act → World → Prop := (both P C Q k).2
def Xk (P : Program) (C : Code) (Q : Exit → Act → World → Prop) (k : List It) : Exit → Act → World → Prop := Ex Q (itsWp P C Q k) (exWp P C Q k)

def leave (id : Nat) : List It → Option (List It)
  | [] => none
  | .blk i :: k => if id = i then some k else leave id k
  | _ :: k => leave id k

section
variable {P : Program} {C : Code} {Q : Exit → Act → World → Prop}
theorem exWp_leave {id : Nat} : ∀ {k k' : List It} {a : Act} {w : World}, leave id k = some k' → itsWp P C Q k' a w → exWp P C Q k id a w
  | [], k', a, w, h, _ => by cases h
  | .blk i :: k, k', a, w, h, hk => by
    simp only [leave] at h
    simp only [exWp, both]
    split at h
    · rename_i e; cases h; rw [if_pos e]; exact hk
    · rename_i e; rw [if_neg e]; exact exWp_leave h hk
  | .code p :: k, k', a, w, h, hk => exWp_leave (k := k) h hk
  | .ops p i n :: k, k', a, w, h, hk => exWp_leave (k := k) h hk
  | .dr .. :: k, k', a, w, h, hk => exWp_leave (k := k) h hk

theorem exWp_none {id : Nat} : ∀ {k : List It} {a : Act} {w : World}, leave id k = none → Q (.exit id) a w → exWp P C Q k id a w
  | [], a, w, h, hk => hk
  | .blk i :: k, a, w, h, hk => by
    simp only [leave] at h
    simp only [exWp, both]
    split at h
    · cases h
    · rename_i e; rw [if_neg e]; exact exWp_none h hk
  | .code p :: k, a, w, h, hk => exWp_none (k := k) h hk
  | .ops p i n :: k, a, w, h, hk => exWp_none (k := k) h hk
  | .dr .. :: k, a, w, h, hk => exWp_none (k := k) h hk

variable {k : List It} {a : Act} {w : World} {p : List Nat}
theorem its_code {c : Code} (hs : sub C p = some c) (h : c.wp P (Xk P C Q k) a w) : itsWp P C Q (.code p :: k) a w := ⟨c, hs, h⟩
theorem its_blk {id : Nat} (h : itsWp P C Q k a w) : itsWp P C Q (.blk id :: k) a w := h

theorem its_skip (hs : sub C p = some .skip) (h : itsWp P C Q k a w) : itsWp P C Q (.code p :: k) a w := its_code hs (wp_skip h)
theorem its_seq {x y : Code} (hs : sub C p = some (.seq x y)) (h : itsWp P C Q (.code (0 :: p) :: .code (1 :: p) :: k) a w) : itsWp P C Q (.code p :: k) a w := by
  obtain ⟨c, hc, h⟩ := h
  simp only [sub, hs, child, Option.some.injEq] at hc
  subst hc
  refine its_code hs (wp_seq (wp_mono h fun e a w q => ?_))
  cases e <;> first
    | exact q
    | (obtain ⟨c, hc, h⟩ := q
       simp only [sub, hs, child, Option.some.injEq] at hc
       subst hc
       exact h)
theorem its_cond {g : Operand} {x y : Code} {b : Bool} (hs : sub C p = some (.cond g x y)) (hb : a.eval g = .bool b) (h : itsWp P C Q (.code ((if b then 0 else 1) :: p) :: k) a w) : itsWp P C Q (.code p :: k) a w := by
  obtain ⟨c, hc, h⟩ := h
  refine its_code hs ?_
  cases b <;> (simp [sub, hs, child] at hc; subst hc; refine wp_cond hb ?_; exact h)
theorem its_block {id : Nat} {b : Code} (hs : sub C p = some (.block id b)) (h : itsWp P C Q (.code (0 :: p) :: .blk id :: k) a w) : itsWp P C Q (.code p :: k) a w := by
  obtain ⟨c, hc, h⟩ := h
  simp only [sub, hs, child, Option.some.injEq] at hc
  subst hc
  refine its_code hs (wp_block (wp_mono h fun e a w q => ?_))
  cases e with
  | exit i =>
    simp only [Ex, both] at q
    simp only [Exit.inBlock]
    split at q
    · rename_i e; rw [if_pos e]; exact q
    · rename_i e; rw [if_neg (by simpa using e)]; exact q
  | _ => exact q
theorem its_exit {id : Nat} {k' : List It} (hs : sub C p = some (.exit id)) (hl : leave id k = some k') (h : itsWp P C Q k' a w) : itsWp P C Q (.code p :: k) a w :=
  its_code hs (wp_exit (exWp_leave hl h))
theorem its_ret (hs : sub C p = some .ret) (h : Q .ret a w) : itsWp P C Q (.code p :: k) a w := its_code hs (wp_ret h)
theorem its_region {id : Nat} {ops : Array Oper} (hs : sub C p = some (.region id ops false)) (h : itsWp P C Q (.ops p 0 ops.size :: k) a w) : itsWp P C Q (.code p :: k) a w := by
  simp only [itsWp, both, regAt, hs] at h
  exact its_code hs (wp_region (by rw [List.range_eq_range']; exact h))
end

end Go.Sx
