/- A symbolic executor over the model's wp: rows that are made. -/
import Derived.Test.YtkmplcpibgnjcaaSxW
import Derived.Laws.MakeOwn
namespace Go.Sx
open Go.RowKit

def zsOf (z : List Value) (n : Nat) : List Value := (List.replicate n z).flatten
theorem zsOf_len (z : List Value) (n : Nat) : (zsOf z n).length = n * z.length := by
  unfold zsOf
  induction n with
  | zero => simp
  | succ n ih => rw [List.replicate_succ, List.flatten_cons, List.length_append, ih, Nat.succ_mul, Nat.add_comm]
theorem zsOf_add (z : List Value) (n m : Nat) : zsOf z (n + m) = zsOf z n ++ zsOf z m := by
  unfold zsOf
  rw [← List.replicate_append_replicate, List.flatten_append]
theorem good_make {G : Gh} {β : Bl} {bx : List (List CV)} {w : World} (g : Good G β bx w) {z : List Value} {cs : Array Value} {n c : Nat} {e : TypeId} (hc : cs.toList = zsOf z c) (hn : n ≤ c) (hm : c ≤ maxLen) :
    Good { G with H := G.H.add w.heap.size 0 (zsOf z n), R := ⟨w.heap.size, n, c, z.length, e⟩ :: G.R, Z := (w.heap.size, zsOf z (c - n)) :: G.Z } β bx (w.alloc (.cells cs e)) := by
  have hsz : cs.size = c * z.length := by rw [← Array.length_toList, hc, zsOf_len]
  have hsplit : cs.toList = zsOf z n ++ zsOf z (c - n) := by rw [hc, ← zsOf_add]; congr 1; omega
  have g1 := good_row g (w1 := w) (vs := zsOf z n) (cs := cs) (n := n) (c := c) (k := z.length) (e := e) rfl rfl rfl rfl (zsOf_len z n) hsz (by rw [hsplit, List.take_left' (zsOf_len z n)]) hn hm
  refine ⟨g1.os, g1.tape, g1.output, g1.size, g1.old, g1.imm, g1.le0, g1.fresh, g1.bl, g1.bh, g1.bxH, g1.bxlt, g1.inj, g1.rows, g1.rinj, fun q hq => ?_⟩
  rcases List.mem_cons.1 hq with rfl | hq
  · refine ⟨_, List.mem_cons_self, rfl, fun cs' hcs' => ?_⟩
    have := heap_alloc_new w (.cells cs e)
    simp only at hcs'
    rw [this] at hcs'
    cases hcs'
    simp only
    rw [hsplit, List.drop_left' (zsOf_len z n)]
  · exact g1.zs q hq
theorem EvG.make {P : Program} {T : Tb} (hT : TOk P T) {C : Code} {Q : Exit → Act → World → Prop} {G : Gh} {d : Option Nat} {its : List It} {st : St} {t ty : TypeId} {ti te : TI} {xl xc : Operand} {kl kc : IntKind} {L M : Int} (ht : T.lookup t = some ti) (hk : ti.k = 2)
    (hte : T.lookup ti.elem = some te) (hz : te.zero.length = te.size) (h0 : 0 ≤ L) (hlc : L ≤ M) (hM : M ≤ 1048576)
    (h : ∀ b, (∀ o, G.H b o = none) → ∃ st', st.put d (.t (.c (.v (.slice (some ⟨b, 0, none⟩) L.toNat M.toNat)))) = some st' ∧
      WP P C Q { G with H := G.H.add b 0 (zsOf te.zero L.toNat), R := ⟨b, L.toNat, M.toNat, te.zero.length, ti.elem⟩ :: G.R, Z := (b, zsOf te.zero (M.toNat - L.toNat)) :: G.Z } its st') :
    EvG P C Q G d its st (.prim (.makeSlice t xl xc) ty [.c (.v (.int kl L)), .c (.v (.int kc M))]) := by
  intro hit β w vs ρ g hvs hops
  cases hvs
  have hx : ρ xl = .int kl L ∧ ρ xc = .int kc M := by simpa [Op.operands] using hops
  obtain ⟨st', hp, hw⟩ := h w.heap.size fun o => g.free
  have hb := put_same_bx hp
  have hu := (hT.ok ht).sl hk
  obtain ⟨i, z, hi, hz1, hz2, hz3, hby⟩ := (hT.ok hte).info
  have hbb : (i.bytes : Int) * M ≤ 281474976710656 := by
    have h1 : (i.bytes : Int) * M = ((i.bytes * M.toNat : Nat) : Int) := by rw [Int.natCast_mul, Int.toNat_of_nonneg (by omega)]
    have h2 : i.bytes * M.toNat ≤ 1048576 * 1048576 := Nat.mul_le_mul hby (by omega)
    rw [h1]
    omega
  have hrun := run_make (P := P) w t ti.elem i z hu hi hz1 kl kc L M h0 hlc hbb (by omega)
  have hcs : (madeCells z.cells (M.toNat * i.size)).toList = zsOf te.zero M.toNat := by
    have hzs : z.cells = te.zero.toArray := by rw [← hz3]
    rw [hzs, hz2, ← hz]
    unfold madeCells
    by_cases hpos : 0 < te.zero.length
    · have := zero_row te.zero hpos M.toNat
      simpa [zsOf] using this
    · have : te.zero = [] := List.eq_nil_of_length_eq_zero (by omega)
      rw [this]
      simp [zsOf]
  refine .inl ⟨.slice (some ⟨w.heap.size, 0, none⟩) L.toNat M.toNat, _, .t (.c (.v (.slice (some ⟨w.heap.size, 0, none⟩) L.toNat M.toNat))), st', _, [], st'.bx, ?_, rfl, hp, (by rw [List.append_nil, hb]; exact good_make g hcs (by omega) (by simp [maxLen]; omega)), by rw [hb]; exact hit.le (Hp.le_add fun o _ => g.free), hw⟩
  simp only [execOp, hx.1, hx.2, Sem.run_bind, hrun, Result.andThen_ok, Sem.run_pure]
end Go.Sx
