/- A symbolic executor over the model's wp: boxes that a round has laid are forgotten at its end. -/
import Derived.Test.YtkmplcpibgnjcaaSxR
namespace Go.Sx
open Go.RowKit

def CV.lim (m : Nat) : CV → Bool
  | .v _ => true
  | .p k _ => decide (k < m)
  | .pa k _ _ => decide (k < m)
  | .sl k _ _ _ => decide (k < m)
  | .fn _ cs => cs.all fun q => decide (q.1 < m)
def TV.lim (m : Nat) : TV → Bool
  | .c x => x.lim m
  | .agg xs => xs.all (CV.lim m)
def AV.lim (m : Nat) : AV → Bool
  | .t x => x.lim m
  | .kb _ => true
  | .tup xs => xs.all (TV.lim m)
section
variable {β : Bl} {m : Nat}
theorem adr_take {k off : Nat} (h : k < m) : adr (β.take m) k off = adr β k off := by
  unfold adr
  rw [List.getElem?_take, if_pos h]
theorem capsDen_take : ∀ {cs : List (Nat × Nat)}, (cs.all fun q => decide (q.1 < m)) = true → capsDen (β.take m) cs = capsDen β cs
  | [], _ => rfl
  | q :: cs, h => by
    simp only [List.all_cons, Bool.and_eq_true, decide_eq_true_eq] at h
    simp only [capsDen, adr_take h.1, capsDen_take (cs := cs) h.2]
theorem CV.den_take {x : CV} (h : x.lim m = true) : x.den (β.take m) = x.den β := by
  cases x <;> simp only [CV.lim, decide_eq_true_eq] at h <;> simp only [CV.den]
  all_goals first | rw [adr_take h] | rw [capsDen_take h]
theorem denL_lim : ∀ {xs : List CV}, xs.all (CV.lim m) = true → denL (β.take m) xs = denL β xs
  | [], _ => rfl
  | q :: cs, h => by
    simp only [List.all_cons, Bool.and_eq_true] at h
    simp only [denL, CV.den_take h.1, denL_lim h.2]
theorem TV.den_take {x : TV} (h : x.lim m = true) : x.den (β.take m) = x.den β := by
  cases x with
  | c x => exact CV.den_take h
  | agg xs => simp only [TV.den, denL_lim h]
theorem tvsDen_take : ∀ {xs : List TV}, xs.all (TV.lim m) = true → tvsDen (β.take m) xs = tvsDen β xs
  | [], _ => rfl
  | q :: cs, h => by
    simp only [List.all_cons, Bool.and_eq_true] at h
    simp only [tvsDen, TV.den_take h.1, tvsDen_take h.2]
theorem AV.is_take {x : AV} (h : x.lim m = true) {v : Value} : x.is (β.take m) v ↔ x.is β v := by
  cases x with
  | t x => simp only [AV.is, TV.den_take h]
  | kb b => exact Iff.rfl
  | tup xs => simp only [AV.is, tvsDen_take h]
end

theorem Good.take {G : Gh} {β : Bl} {bx : List (List CV)} {w : World} (g : Good G β bx w) (m : Nat) (h : ((bx.take m).all fun cs => cs.all (CV.lim m)) = true) : Good G (β.take m) (bx.take m) w := by
  have hs : ∀ q ∈ β.take m, q ∈ β := fun q hq => List.mem_of_mem_take hq
  refine ⟨g.os, g.tape, g.output, g.size, g.old, g.imm, g.le0, g.fresh, by simp [g.bl], ?_, fun q hq => g.bxH q (hs q hq), fun q hq => g.bxlt q (hs q hq), g.inj.sublist ((List.take_sublist m β).map _), fun r hr => ?_, g.rinj, g.zs⟩
  · intro k cs q hk hq i c hc
    have hkm : k < m := by
      have := (List.getElem?_eq_some_iff.1 hk).1
      simp at this; omega
    have hmem := List.mem_of_getElem? hk
    rw [List.getElem?_take, if_pos hkm] at hk hq
    obtain ⟨x, e1, e2, e3⟩ := g.bh k cs q hk hq i c hc
    have hl := List.all_eq_true.1 (List.all_eq_true.1 h cs hmem) c (List.mem_of_getElem? hc)
    exact ⟨x, by rw [CV.den_take hl]; exact e1, e2, e3⟩
  · obtain ⟨r1, r2, r3, r4, r5⟩ := g.rows r hr
    exact ⟨r1, r2, r3, fun q hq => r4 q (hs q hq), r5⟩

/-- a round's end, where boxes of the round's own are forgotten -/
theorem FinG.roundB {α : Type} {P : Program} {C : Code} {Q : Exit → Act → World → Prop} {G : Gh} {its : List It} {I : α → Prop} {S : α → St} {Gf : α → Gh} {μ : α → Nat} {x : α} {st : St} (ks : List Nat) (m : Nat) (y : α) (hI : I y) (hμ : μ y < μ x)
    (hl : ((keepT ks st.t).all fun p => p.2.lim m) = true) (hb : ((st.bx.take m).all fun cs => cs.all (CV.lim m)) = true)
    (hS : S y = { n := st.n, t := keepT ks st.t, g := [], bx := st.bx.take m }) (hG : Gf y = G) : FinG (LQ P C Q its I S Gf μ x) G .normal st :=
  fun β a w r g => ⟨y, β.take m, hI, hμ, by
    rw [hS]
    refine ⟨r.size, fun d av h => ?_, fun p hp => by simp at hp, r.df, fun p hp => by simp at hp⟩
    obtain ⟨av0, h0, rfl⟩ := keepT_lookup h
    have h1 := r.tm d av0 h0
    have h2 := List.all_eq_true.1 hl _ (lookup_mem h)
    exact ⟨h1.1, (AV.is_take h2).2 (AV.is_unkb h1.2)⟩, by rw [hG, hS]; exact g.take m hb⟩
end Go.Sx
