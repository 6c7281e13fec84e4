/- From arguments that can be read to what the contracts ask. -/
import Derived.Test.YtkmplcpibgnjcaaE9
namespace Go.Sx
open Go.RowKit

def cellsH (W : World) : Hp := fun b o => W.cell? ⟨b, o, none⟩
theorem agree_cells (W : World) : Agree (cellsH W) W := fun _ _ _ h => h
theorem cell_hat {W : World} {a : Addr} {j : Nat} {v : Value} (hs : a.spot = none) (h : W.cell? (a.add j) = some v) : hat (cellsH W) a j = some v := by
  obtain ⟨b, o, s⟩ := a
  simp only at hs; subst hs
  unfold hat cellsH
  simp only [if_true]
  have e : (⟨b, o, none⟩ : Addr).add j = ⟨b, o + j, none⟩ := by unfold Addr.add; split <;> simp_all
  rw [← e]; exact h
theorem cell_spot {W : World} {a : Addr} {v : Value} (h : W.cell? a = some v) : a.spot = none := by
  unfold World.cell? at h
  split at h
  · split at h
    · cases h
    · rename_i hs; simpa using hs
  · cases h
theorem rw_bytes {W : World} {x : Addr} {len cap : Nat} {zs : List Int} (hl : len ≤ cap) (hz : zs.length = cap) (hc : ∀ i, i < zs.length → W.cell? (x.add i) = some (.int .u8 (zs.getD i 0))) (hw : ∀ n ∈ zs, (Lit.int .u8 n).wf = true) :
    ∃ bs : List UInt8, Rw (cellsH W) 1 (some x) len (bs.map u8V) := by
  refine ⟨(zs.take len).map fun z => UInt8.ofNat z.toNat, by simp; omega, fun j v hv => ⟨x, rfl, ?_⟩⟩
  simp only [List.map_map, List.getElem?_map, Option.map_eq_some_iff, List.getElem?_take] at hv
  obtain ⟨z, hz1, rfl⟩ := hv
  split at hz1
  case isFalse => cases hz1
  rename_i hj
  have hj2 : j < zs.length := by omega
  have h0 := hc 0 (by omega)
  have hs := cell_spot (a := x) (by simpa [Addr.add] using h0)
  refine cell_hat hs ?_
  rw [hc j hj2]
  have hg : zs.getD j 0 = z := by simp [List.getD_eq_getElem?_getD, hz1]
  rw [hg]
  have hwf := hw z (List.mem_of_getElem? hz1)
  have h255 : 0 ≤ z ∧ z < 256 := by
    simp [Lit.wf, IntKind.min, IntKind.max, IntKind.bits, IntKind.signed] at hwf
    omega
  have e : (((UInt8.ofNat z.toNat).toNat : Nat) : Int) = z := by
    simp [UInt8.toNat_ofNat']
    omega
  simp only [Function.comp, u8V, e]
end Go.Sx
