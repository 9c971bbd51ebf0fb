/- Layer 8, the reference: the walks of number, escape. -/
import Derived.Test.YtgjdajkkncdhmaaDoorTB
namespace Go.Proofs.YtgjdajkkncdhmaaDoor
open Go.RowKit Go.El

theorem numV_step (l : List UInt8) (c : UInt8) : numV (l ++ [c]) = 10 * numV l + (c.toNat - 48) := by simp [numV, List.foldl_append]
theorem numV_ge (n : Nat) : ∀ l : List UInt8, n ≤ l.foldl (fun n c => 10 * n + (c.toNat - 48)) n
  | [] => Nat.le_refl _
  | c :: l => by
    have := numV_ge (10 * n + (c.toNat - 48)) l
    simp only [List.foldl_cons]
    omega
theorem numV_take (l : List UInt8) (k : Nat) : numV (l.take k) ≤ numV l := by
  conv => rhs; rw [← List.take_append_drop k l]
  unfold numV
  rw [List.foldl_append]
  exact numV_ge _ _
def numI (l : List UInt8) : Int := if numV l ≤ 9007199254740991 then (numV l : Int) else -1
theorem numI_big {l : List UInt8} {k : Nat} (h : 9007199254740991 < numV (l.take k)) : numI l = -1 := by
  unfold numI
  rw [if_neg (by have := numV_take l k; omega)]
theorem numI_ok {l : List UInt8} (h : numV l ≤ 9007199254740991) : numI l = numV l := by
  unfold numI
  rw [if_pos h]

set_option maxRecDepth 100000 in
set_option maxHeartbeats 1000000 in
theorem rNumber_any (A : Option Addr) (cap : Nat) (L : List UInt8) (w : World) (h : BytesAt w A L) (hL : L.length ≤ 70000) (hd : ∀ c ∈ L, isDigit c = true) :
    Calls Tryd.prog 45 #[.slice A L.length cap] w fun e w' => e = .returned (.int .i64 (numI L)) ∧ w = w' := by
  have H := Lib.hid h
  have HDG := Lib.hid hd
  clear h hd
  go_enter Tryd.func45, Tryd.ntmps45
  go_wp2_with fail
  go_loop [3, 4] (fun n i => ∃ k : Nat, k ≤ L.length ∧ i = .int .i64 k ∧ n = .int .i64 (numV (L.take k) : Nat) ∧ numV (L.take k) ≤ 9007199254740991) (fun _ i => L.length - (intOf i).toNat)
  case atStart => exact ⟨0, Nat.zero_le _, rfl, by simp [numV], by simp [numV]⟩
  case round =>
    obtain ⟨k, hk, rfl, rfl, hn⟩ := hrel
    by_cases hlt : k < L.length
    · obtain ⟨b, off, rfl, hc⟩ := bytes_at H.out hlt
      have ho : L[k]? = some L[k] := List.getElem?_eq_getElem hlt
      have hdg := HDG.out L[k] (List.getElem_mem hlt)
      generalize L[k] = c at ho hdg
      have d0 := hc k c ho
      clear hc
      obtain ⟨h1, h2⟩ : 48 ≤ c.toNat ∧ c.toNat ≤ 57 := by
        have hdn := isDigit_nat c
        rw [hdg] at hdn
        simpa using hdn
      have hst : numV (L.take (k + 1)) = 10 * numV (L.take k) + (c.toNat - 48) := by
        rw [List.take_add_one, ho]
        exact numV_step _ _
      by_cases hbig : 9007199254740991 < numV (L.take (k + 1))
      · have HV := Lib.hid (numI_big hbig)
        generalize numV (L.take (k + 1)) = m at hst hbig
        generalize numV (L.take k) = n at hst hn
        have hd1 : ((c.toNat : Int) - 48) = ((c.toNat - 48 : Nat) : Int) := by omega
        have hd2 : c.toNat - 48 < 10 := by omega
        generalize c.toNat - 48 = d at hst hd1 hd2
        subst hst
        clear ho hdg
        go_wp2_with fail
        all_goals
          first
            | (exfalso; omega)
            | (go_ret
               exact ⟨ret_int HV.out.symm, rfl⟩)
      · have HST := Lib.hid hst
        generalize numV (L.take k) = n at hst hn HST
        have hb2 : 10 * n + (c.toNat - 48) ≤ 9007199254740991 := by omega
        have hd1 : ((c.toNat : Int) - 48) = ((c.toNat - 48 : Nat) : Int) := by omega
        have hd2 : c.toNat - 48 < 10 := by omega
        generalize c.toNat - 48 = d at hb2 hd1 hd2 HST
        clear ho hdg hst hbig
        go_wp2_with fail
        all_goals
          first
            | (exfalso; omega)
            | (go_round
               case rel => exact ⟨k + 1, hlt, by go_num, by rw [HST.out]; go_num, by rw [HST.out]; exact hb2⟩
               case measure => simp [intOf]; omega)
    · obtain rfl : k = L.length := by omega
      rw [List.take_length] at hn ⊢
      have HV := Lib.hid (numI_ok hn)
      go_wp2_with fail
      go_ret
      exact ⟨ret_int HV.out.symm, rfl⟩

end Go.Proofs.YtgjdajkkncdhmaaDoor
