/- Layer 10, plain: a reading does not look at places. -/
import Derived.Test.YtgcdhffeacdegaaGreatDoorG04
namespace Go.El

def PR.map {α : Type} (z : TokV → TokV) : PR α → PR α
  | .bad r => .bad (r.map z)
  | .ok a r ms => .ok a (r.map z) ms
section
variable {O : Ops} {z : TokV → TokV} (hk : ∀ t, (z t).kind = t.kind) (hs : ∀ t, (z t).s = t.s) (hn : ∀ t, (z t).n = t.n) (hl : ∀ t, (z t).lay = t.lay)
include hk hs
theorem zpu (r : List TokV) (c : UInt8) : isPu (r.map z) c = isPu r c := by
  cases r with
  | nil => rfl
  | cons t r => simp [isPu, hk, hs]
theorem zin (r : List TokV) : infixF O (r.map z) = infixF O r := by
  cases r with
  | nil => rfl
  | cons t r =>
    have := zpu hk hs (t :: r) 44
    simp only [List.map_cons] at this
    simp only [List.map_cons, infixF, hk, hs, this]
include hl
theorem zop (r : List TokV) : opensB (r.map z) = opensB r := by
  unfold opensB
  rw [zpu hk hs]
  cases r with
  | nil => rfl
  | cons t r => simp [layB, hl]
theorem zbe (r : List TokV) : beginsB O (r.map z) = beginsB O r := by
  cases r with
  | nil => rfl
  | cons t r =>
    have h := fun c => zpu hk hs (t :: r) c
    simp only [List.map_cons] at h
    simp only [List.map_cons, beginsB, hk, hs, h, zop hk hs hl]
omit hs in
theorem znu (r : List TokV) : numB (r.map z) = numB r := by
  cases r with
  | nil => rfl
  | cons t r => simp [numB, hk, hl]
include hn
omit hk hs hl in
theorem zhn (r : List TokV) : headN (r.map z) = headN r := by
  cases r with
  | nil => rfl
  | cons t r => simp [headN, hn]
omit hn hl in
theorem zwant {α : Type} (c : UInt8) (a : α) (r : List TokV) (ns : List ByteArray) : wantP c a (r.map z) ns = (wantP c a r ns).map z := by
  unfold wantP
  rw [zpu hk hs]
  split
  · simp [PR.map]
  · rfl
structure ZedN (O : Ops) (z : TokV → TokV) (n : Nat) : Prop where
  term : ∀ most r ns, termN O n most (r.map z) ns = (termN O n most r ns).map z
  loop : ∀ most t p r ns, loopN O n most t p (r.map z) ns = (loopN O n most t p r ns).map z
  oper : ∀ most r ns, operN O n most (r.map z) ns = (operN O n most r ns).map z
  brac : ∀ t r ns, bracN O n (z t) (r.map z) ns = (bracN O n t r ns).map z
  named : ∀ s r ns, namedN O n s (r.map z) ns = (namedN O n s r ns).map z
  row : ∀ lim acc r ns, rowN O n lim acc (r.map z) ns = (rowN O n lim acc r ns).map z
  sign : ∀ s most r ns, signN O n s most (r.map z) ns = (signN O n s most r ns).map z
theorem zed_all : ∀ n, ZedN O z n
  | 0 => ⟨fun _ _ _ => rfl, fun _ _ _ _ _ => rfl, fun _ _ _ => rfl, fun _ _ _ => rfl, fun _ _ _ => rfl, fun _ _ _ _ => rfl, fun _ _ _ _ => rfl⟩
  | n + 1 => by
    have ih := zed_all n
    refine ⟨fun most r ns => ?_, fun most t p r ns => ?_, fun most r ns => ?_, fun t r ns => ?_, fun s r ns => ?_, fun lim acc r ns => ?_, fun s most r ns => ?_⟩
    · simp only [termN]
      rw [ih.oper]
      cases operN O n most r ns with
      | bad q => rfl
      | ok a q ms => exact ih.loop most a.1 a.2 q ms
    · simp only [loopN]
      rw [zin hk hs]
      cases infixF O r with
      | none => rfl
      | some o =>
        dsimp only
        split
        · rfl
        · rw [← List.map_tail, ih.term]
          cases termN O n (rightI o.p o.t) r.tail ns with
          | bad q => rfl
          | ok a q ms => exact ih.loop most _ _ q ms
    · cases r with
      | nil => rfl
      | cons t r =>
        simp only [List.map_cons, operN, hk, hs, hn]
        split
        · exact ih.brac t r ns
        · split
          · rfl
          · split
            · rfl
            · split
              · rfl
              · split
                · exact ih.named _ r ns
                · exact ih.sign _ _ r ns
    · simp only [bracN, hs]
      split
      · rw [ih.term]
        cases termN O n 1200 r ns with
        | bad q => rfl
        | ok a q ms => exact zwant hk hs 41 _ q ms
      · split
        · rw [zpu hk hs]
          split
          · rw [← List.map_tail]
            exact ih.named _ _ ns
          · rw [ih.row]
            cases rowN O n false [] r ns with
            | bad q => rfl
            | ok l q ms =>
              simp only [PR.map]
              rw [zpu hk hs]
              split
              · rw [← List.map_tail, ih.term]
                cases termN O n 999 q.tail ms with
                | bad q2 => rfl
                | ok u q2 m2 => exact zwant hk hs 93 _ q2 m2
              · exact zwant hk hs 93 _ q ms
        · split
          · rw [zpu hk hs]
            split
            · rw [← List.map_tail]
              exact ih.named _ _ ns
            · rw [ih.term]
              cases termN O n 1200 r ns with
              | bad q => rfl
              | ok a q ms => exact zwant hk hs 125 _ q ms
          · rfl
    · simp only [namedN]
      rw [zop hk hs hl]
      split
      · rw [← List.map_tail, ih.row]
        cases rowN O n true [] r.tail ns with
        | bad q => rfl
        | ok l q ms => exact zwant hk hs 41 _ q ms
      · rfl
    · simp only [rowN]
      rw [ih.term]
      cases termN O n 999 r ns with
      | bad q => rfl
      | ok u q ms =>
        simp only [PR.map]
        rw [zpu hk hs]
        split
        · split
          · rfl
          · rw [← List.map_tail]
            exact ih.row lim _ _ ms
        · rfl
    · simp only [signN]
      rw [zop hk hs hl, znu hk hl, zbe hk hs hl, zhn hn]
      split
      · exact ih.named _ r ns
      · split
        · simp [PR.map]
        · cases O.fp s with
          | none => rfl
          | some o =>
            dsimp only
            split
            · rw [ih.term]
              cases termN O n (rightI o.p o.t) r ns with
              | bad q => rfl
              | ok u q ms => rfl
            · rfl
end
end Go.El
