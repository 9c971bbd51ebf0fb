/- Terms in memory, and the state of a writer. -/
import Derived.Test.YtgcdhffeacdegaaGreatDoorG04
import Derived.Test.YtgcdhffeacdegaaGreatDoorG08
namespace Go.El
open Go.RowKit

/-- A term in memory: where its arguments lie; the blocks below lie in D. -/
inductive TmIn (D : Nat → Prop) (w : World) : Tm → Option Addr → Nat → Prop
  | mk (k n : Int) (s : ByteArray) (l : List Tm) (A : Option Addr) (cap : Nat) (ch : List (Option Addr × Nat))
      (hl : ch.length = l.length)
      (hr : ∀ (j : Nat) (t : Tm) (c : Option Addr × Nat), l[j]? = some t → ch[j]? = some c → TmIn D w t c.1 c.2)
      (hs : l ≠ [] → ∃ b off, A = some ⟨b, off, none⟩ ∧ D b ∧ ∀ (j : Nat) (t : Tm) (c : Option Addr × Nat), l[j]? = some t → ch[j]? = some c → w.cell? ⟨b, off + j * 4, none⟩ = some (.int .i64 t.k) ∧ w.cell? ⟨b, off + j * 4 + 1, none⟩ = some (.int .i64 t.n) ∧ w.cell? ⟨b, off + j * 4 + 2, none⟩ = some (.string t.s) ∧ w.cell? ⟨b, off + j * 4 + 3, none⟩ = some (.slice c.1 t.l.length c.2))
      (hc : l.length ≤ cap) : TmIn D w (.mk k n s l) A cap

/-- A term as a value. -/
def tmVal (t : Tm) (A : Option Addr) (cap : Nat) : Value := .agg #[.int .i64 t.k, .int .i64 t.n, .string t.s, .slice A t.l.length cap]

theorem TmIn.mods {D D' : Nat → Prop} {S : List Nat} {w w' : World} (hm : Mods S w w') (hS : ∀ k, D k → k ∉ S) (hD : ∀ k, D k → D' k) {t : Tm} {A : Option Addr} {c : Nat} (h : TmIn D w t A c) : TmIn D' w' t A c := by
  induction h with
  | mk k n s l A cap ch hl hr hs hc ih =>
    refine .mk k n s l A cap ch hl ih (fun hne => ?_) hc
    obtain ⟨b, off, hA, hb, hcell⟩ := hs hne
    refine ⟨b, off, hA, hD b hb, fun j t c ht hcj => ?_⟩
    obtain ⟨h0, h1, h2, h3⟩ := hcell j t c ht hcj
    exact ⟨hm.cell h0 (hS b hb), hm.cell h1 (hS b hb), hm.cell h2 (hS b hb), hm.cell h3 (hS b hb)⟩
theorem TmIn.ext {D : Nat → Prop} {w w' : World} (hx : Ext w w') {t : Tm} {A : Option Addr} {c : Nat} (h : TmIn D w t A c) : TmIn D w' t A c :=
  TmIn.mods (Mods.ext (S := []) hx) (fun _ _ => by simp) (fun _ h => h) h
theorem TmIn.mono {D D' : Nat → Prop} {w : World} (hD : ∀ k, D k → D' k) {t : Tm} {A : Option Addr} {c : Nat} (h : TmIn D w t A c) : TmIn D' w t A c :=
  TmIn.mods (Mods.refl [] w) (fun _ _ => by simp) hD h
theorem TmIn.cap_ {D : Nat → Prop} {w : World} {t : Tm} {A : Option Addr} {c : Nat} (h : TmIn D w t A c) : t.l.length ≤ c := by
  cases h
  assumption
/-- An argument of a term. -/
theorem TmIn.child {D : Nat → Prop} {w : World} {t : Tm} {A : Option Addr} {c : Nat} (h : TmIn D w t A c) {j : Nat} {u : Tm} (hj : t.l[j]? = some u) : ∃ b off A' c', A = some ⟨b, off, none⟩ ∧ D b ∧ TmIn D w u A' c' ∧ w.cell? ⟨b, off + j * 4, none⟩ = some (.int .i64 u.k) ∧ w.cell? ⟨b, off + j * 4 + 1, none⟩ = some (.int .i64 u.n) ∧ w.cell? ⟨b, off + j * 4 + 2, none⟩ = some (.string u.s) ∧ w.cell? ⟨b, off + j * 4 + 3, none⟩ = some (.slice A' u.l.length c') := by
  cases h with
  | mk k n s l A cap ch hl hr hs hc =>
    simp only [Tm.l] at hj
    have hlt := (List.getElem?_eq_some_iff.1 hj).1
    have hne : l ≠ [] := by
      rintro rfl
      simp at hlt
    obtain ⟨b, off, hA, hb, hcell⟩ := hs hne
    have hcj : ch[j]? = some (ch[j]'(by omega)) := List.getElem?_eq_getElem (by omega)
    obtain ⟨h0, h1, h2, h3⟩ := hcell j u _ hj hcj
    exact ⟨b, off, _, _, hA, hb, hr j u _ hj hcj, h0, h1, h2, h3⟩

/-- A list of terms in memory. -/
def TmsIn (D : Nat → Prop) (w : World) (l : List Tm) (A : Option Addr) (cap : Nat) : Prop := TmIn D w (.mk 0 0 ⟨#[]⟩ l) A cap
theorem TmIn.args {D : Nat → Prop} {w : World} {t : Tm} {A : Option Addr} {c : Nat} (h : TmIn D w t A c) : TmsIn D w t.l A c := by
  cases h with
  | mk k n s l A cap ch hl hr hs hc => exact .mk 0 0 _ _ _ _ ch hl hr hs hc
theorem TmsIn.term {D : Nat → Prop} {w : World} {l : List Tm} {A : Option Addr} {c : Nat} (h : TmsIn D w l A c) (k n : Int) (s : ByteArray) : TmIn D w (.mk k n s l) A c := by
  cases h with
  | mk _ _ _ _ _ _ ch hl hr hs hc => exact .mk k n s l A c ch hl hr hs hc
theorem TmsIn.nil (D : Nat → Prop) (w : World) (A : Option Addr) (c : Nat) : TmsIn D w [] A c :=
  .mk 0 0 _ [] A c [] rfl (fun j t c h => by simp at h) (fun h => absurd rfl h) (Nat.zero_le _)

end Go.El
