/- Tokens in memory. -/
import Derived.Test.YtgcdhffeacdegaaGreatDoorH06
namespace Go.Proofs.YtgcdhffeacdegaaGreatDoor
open Go.RowKit Go.El
theorem tok_cells {w : World} {A : Option Addr} {L : List TokV} (h : El.Src w A L.length 5 (flat tokCells L)) {k : Nat} {t : TokV} (hk : L[k]? = some t) : ∃ b off, A = some ⟨b, off, none⟩ ∧ w.cell? ⟨b, off + k * 5, none⟩ = some (.int .i64 t.kind) ∧ w.cell? ⟨b, off + k * 5 + 1, none⟩ = some (.string t.s) ∧ w.cell? ⟨b, off + k * 5 + 2, none⟩ = some (.int .i64 t.n) ∧ w.cell? ⟨b, off + k * 5 + 3, none⟩ = some (.int .i64 t.at_) ∧ w.cell? ⟨b, off + k * 5 + 4, none⟩ = some (.bool t.lay) := by
 have hlt : k < L.length := (List.getElem?_eq_some_iff.1 hk).1
 obtain ⟨b, off, rfl, hc⟩ := El.Src.form h (by omega) (by omega)
 refine ⟨b, off, rfl, ?_, ?_, ?_, ?_, ?_⟩
 ·exact hc (k * 5) _ (flat_at tokCells_len L k 0 t hk (by omega))
 ·exact hc (k * 5 + 1) _ (flat_at tokCells_len L k 1 t hk (by omega))
 ·exact hc (k * 5 + 2) _ (flat_at tokCells_len L k 2 t hk (by omega))
 ·exact hc (k * 5 + 3) _ (flat_at tokCells_len L k 3 t hk (by omega))
 ·exact hc (k * 5 + 4) _ (flat_at tokCells_len L k 4 t hk (by omega))
end Go.Proofs.YtgcdhffeacdegaaGreatDoor
