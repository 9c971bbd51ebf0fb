/- Layer 8, the reference: the walk of one, kind by kind of its first byte. -/
import Derived.Test.YtmnnhdegoapfcaaGreatDoorC20
namespace Go.Proofs.YtmnnhdegoapfcaaGreatDoor
open Go.RowKit Go.El

theorem ext_box (w : World) (o : Obj) : Ext w (w.alloc o) := (Ext.refl w).alloc o
theorem ext_box2 (w : World) (o p : Obj) : Ext w ((w.alloc o).alloc p) := ((Ext.refl w).alloc o).alloc p
def tok0 : Obj := .cells #[.int .i64 0, .string ⟨#[]⟩, .int .i64 0, .int .i64 0, .bool false] 186

/-- What a byte's walk through 'one' stands on. -/
structure OneAt (b off cap : Nat) (B : List UInt8) (i : Nat) (c : UInt8) (w : World) : Prop where
  src : BytesAt w (some ⟨b, off, none⟩) B
  at_ : B[i]? = some c
  len : B.length ≤ 70000
  cap : B.length ≤ cap
theorem OneAt.lt {b off cap : Nat} {B : List UInt8} {i : Nat} {c : UInt8} {w : World} (h : OneAt b off cap B i c w) : i < B.length := (List.getElem?_eq_some_iff.1 h.at_).1
theorem OneAt.cells {b off cap : Nat} {B : List UInt8} {i : Nat} {c : UInt8} {w : World} (h : OneAt b off cap B i c w) : ∀ j c, B[j]? = some c → w.cell? ⟨b, off + j, none⟩ = some (.int .u8 (c.toNat : Int)) := by
  obtain ⟨b', off', he, hc⟩ := bytes_at h.src h.lt
  injection he with he
  injection he with he1 he2
  subst he1 he2
  exact hc
theorem OneAt.conv {b off cap : Nat} {B : List UInt8} {i : Nat} {c : UInt8} {w : World} (h : OneAt b off cap B i c w) (e : Nat) (hge : i ≤ e) (hle : e ≤ B.length) (x p : Obj) :
    (convert 61 9 (.slice (some ⟨b, off + i, none⟩) (e - i) (cap - i))).run Tryz.prog ((w.alloc x).alloc p) = .ok (.string (strB (sub B i e))) ((w.alloc x).alloc p) := by
  have h1 := (bytes_sub h.src i e hge hle).ext (ext_box2 w x p)
  have h2 := conv_str (cap - i) h1
  rw [sub_length hle] at h2
  exact h2
theorem OneAt.row {b off cap : Nat} {B : List UInt8} {i : Nat} {c : UInt8} {w : World} (h : OneAt b off cap B i c w) (kd : Int) (p : UInt8 → Bool) (hkd : kd = 1 ∧ p = isWord ∨ kd = 2 ∧ p = isSign ∨ kd = 3 ∧ p = isDigit) (x y : Obj) :
    Calls Tryz.prog 235 #[.slice (some ⟨b, off, none⟩) B.length cap, .int .i64 (i : Int), .int .i64 kd] ((w.alloc x).alloc y) fun e w' => e = .returned (.int .i64 (rowTo p B i : Nat)) ∧ ((w.alloc x).alloc y) = w' :=
  rRow_any _ cap B i kd p _ (h.src.ext (ext_box2 _ _ _)) (by have := h.lt; omega) h.len hkd

set_option maxRecDepth 100000 in
set_option maxHeartbeats 4000000 in
theorem rOne_small (b off cap : Nat) (B : List UInt8) (i : Nat) (c : UInt8) (w : World) (h : OneAt b off cap B i c w) (hk : isSmall c = true) :
    Calls Tryz.prog 214 #[.slice (some ⟨b, off, none⟩) B.length cap, .int .i64 (i : Int)] w fun e w' => e = .returned (oneV i (oneS B i c)) ∧ Ext w w' := by
  have hlt := h.lt
  have hcap := h.cap
  have hB := h.len
  have d0 := h.cells i c h.at_
  have d1 : ∀ o, (w.alloc o).cell? ⟨b, off + i, none⟩ = some (.int .u8 (c.toNat : Int)) := fun o => (ext_box w o).cell d0
  have hci : ¬ cap = i := by omega
  have hsm : smallN c.toNat = true := by rw [← isSmall_nat]; exact hk
  have q46 := u8_ne' (c := c) (n := 46) (z := 46) rfl (by omega) (by rintro rfl; revert hk; decide)
  have hle : rowTo isWord B i ≤ B.length := rowTo_le (by omega)
  have hge := rowTo_ge isWord B i
  have hsl := sub_length (l := B) (i := i) hle
  have hsz := strB_size (sub B i (rowTo isWord B i))
  rw [hsl] at hsz
  have HS := Lib.hid (oneS_small (B := B) (i := i) hk)
  have HR := fun x y => Lib.hid (h.row 1 isWord (by simp) x y)
  have hcv := fun y => h.conv _ hge hle (.cells #[.int .i64 0, .string ⟨#[]⟩, .int .i64 0, .int .i64 0, .bool false] 186) y
  have hce : rowTo isWord B i ≤ cap := by omega
  have hN1 : 64 < (sub B i (rowTo isWord B i)).length → oneS B i c = .error 3 := fun g => HS.out.trans (nameS_long g)
  have hN2 : ¬ 64 < (sub B i (rowTo isWord B i)).length → oneS B i c = .ok (1, sub B i (rowTo isWord B i), 0, rowTo isWord B i) := fun g => HS.out.trans (nameS_ok g)
  generalize rowTo isWord B i = e at *
  have HL := Lib.hid hsl
  generalize hgs : strB (sub B i e) = s at hsz hcv
  have HGS := Lib.hid hgs
  clear hgs hsl hk
  by_cases hlong : 64 < e - i
  · have HN := Lib.hid (hN1 (by rw [HL.out]; exact hlong))
    clear hN1 hN2 HL HS h
    go_enter Tryz.func214, Tryz.ntmps214
    go_wp2_with (first | (go_at_call 151; refine (rSmall_any _ _).mono ?_; rintro e w' ⟨rfl, rfl⟩) | (go_at_call 153; refine (rSign_any _ _).mono ?_; rintro e w' ⟨rfl, rfl⟩) | (go_at_call 152; refine (rWord_any _ _).mono ?_; rintro e w' ⟨rfl, rfl⟩) | (go_at_call 235; refine (HR _ _).out.mono ?_; rintro e w' ⟨rfl, rfl⟩))
    refine bodyPost_ret (v := oneV i (oneS B i c)) ?_ rfl ⟨rfl, ext_box2 _ _ _⟩
    rw [HN.out]
    simp [results, Tryz.results214, go_sem, oneV, tokV_eq, zeroT]
  · have HN := Lib.hid (hN2 (by rw [HL.out]; exact hlong))
    clear hN1 hN2 HL HS h
    go_enter Tryz.func214, Tryz.ntmps214
    go_wp2_with (first | (go_at_call 151; refine (rSmall_any _ _).mono ?_; rintro e w' ⟨rfl, rfl⟩) | (go_at_call 153; refine (rSign_any _ _).mono ?_; rintro e w' ⟨rfl, rfl⟩) | (go_at_call 152; refine (rWord_any _ _).mono ?_; rintro e w' ⟨rfl, rfl⟩) | (go_at_call 235; refine (HR _ _).out.mono ?_; rintro e w' ⟨rfl, rfl⟩))
    refine bodyPost_ret (v := oneV i (oneS B i c)) ?_ rfl ⟨rfl, ext_box2 _ _ _⟩
    rw [HN.out]
    simp [results, Tryz.results214, go_sem, oneV, tokV_eq, HGS.out]

set_option maxRecDepth 100000 in
set_option maxHeartbeats 4000000 in
theorem rOne_sign (b off cap : Nat) (B : List UInt8) (i : Nat) (c : UInt8) (w : World) (h : OneAt b off cap B i c w) (hk : c ≠ 46 ∧ isSign c = true) :
    Calls Tryz.prog 214 #[.slice (some ⟨b, off, none⟩) B.length cap, .int .i64 (i : Int)] w fun e w' => e = .returned (oneV i (oneS B i c)) ∧ Ext w w' := by
  have hlt := h.lt
  have hcap := h.cap
  have hB := h.len
  have d0 := h.cells i c h.at_
  have d1 : ∀ o, (w.alloc o).cell? ⟨b, off + i, none⟩ = some (.int .u8 (c.toNat : Int)) := fun o => (ext_box w o).cell d0
  have hci : ¬ cap = i := by omega
  have q46 := u8_ne' (c := c) (n := 46) (z := 46) rfl (by omega) (hk.1)
  have hnsm : isSmall c = false := by
    have := all_bytes (p := fun c => (!isSign c || !isSmall c) = true) (by decide +kernel) c
    rw [hk.2] at this
    simpa using this
  have hsm : smallN c.toNat = false := by rw [← isSmall_nat]; exact hnsm
  have hsg : hasB signS c = true := hk.2
  clear hnsm
  have hle : rowTo isSign B i ≤ B.length := rowTo_le (by omega)
  have hge := rowTo_ge isSign B i
  have hsl := sub_length (l := B) (i := i) hle
  have hsz := strB_size (sub B i (rowTo isSign B i))
  rw [hsl] at hsz
  have HS := Lib.hid (oneS_sign (B := B) (i := i) (ends_no hk.1) hk.2)
  have HR := fun x y => Lib.hid (h.row 2 isSign (by simp) x y)
  have hcv := fun y => h.conv _ hge hle (.cells #[.int .i64 0, .string ⟨#[]⟩, .int .i64 0, .int .i64 0, .bool false] 186) y
  have hce : rowTo isSign B i ≤ cap := by omega
  have hN1 : 64 < (sub B i (rowTo isSign B i)).length → oneS B i c = .error 3 := fun g => HS.out.trans (nameS_long g)
  have hN2 : ¬ 64 < (sub B i (rowTo isSign B i)).length → oneS B i c = .ok (1, sub B i (rowTo isSign B i), 0, rowTo isSign B i) := fun g => HS.out.trans (nameS_ok g)
  generalize rowTo isSign B i = e at *
  have HL := Lib.hid hsl
  generalize hgs : strB (sub B i e) = s at hsz hcv
  have HGS := Lib.hid hgs
  clear hgs hsl hk
  by_cases hlong : 64 < e - i
  · have HN := Lib.hid (hN1 (by rw [HL.out]; exact hlong))
    clear hN1 hN2 HL HS h
    go_enter Tryz.func214, Tryz.ntmps214
    go_wp2_with (first | (go_at_call 151; refine (rSmall_any _ _).mono ?_; rintro e w' ⟨rfl, rfl⟩) | (go_at_call 153; refine (rSign_any _ _).mono ?_; rintro e w' ⟨rfl, rfl⟩) | (go_at_call 152; refine (rWord_any _ _).mono ?_; rintro e w' ⟨rfl, rfl⟩) | (go_at_call 235; refine (HR _ _).out.mono ?_; rintro e w' ⟨rfl, rfl⟩))
    refine bodyPost_ret (v := oneV i (oneS B i c)) ?_ rfl ⟨rfl, ext_box2 _ _ _⟩
    rw [HN.out]
    simp [results, Tryz.results214, go_sem, oneV, tokV_eq, zeroT]
  · have HN := Lib.hid (hN2 (by rw [HL.out]; exact hlong))
    clear hN1 hN2 HL HS h
    go_enter Tryz.func214, Tryz.ntmps214
    go_wp2_with (first | (go_at_call 151; refine (rSmall_any _ _).mono ?_; rintro e w' ⟨rfl, rfl⟩) | (go_at_call 153; refine (rSign_any _ _).mono ?_; rintro e w' ⟨rfl, rfl⟩) | (go_at_call 152; refine (rWord_any _ _).mono ?_; rintro e w' ⟨rfl, rfl⟩) | (go_at_call 235; refine (HR _ _).out.mono ?_; rintro e w' ⟨rfl, rfl⟩))
    refine bodyPost_ret (v := oneV i (oneS B i c)) ?_ rfl ⟨rfl, ext_box2 _ _ _⟩
    rw [HN.out]
    simp [results, Tryz.results214, go_sem, oneV, tokV_eq, HGS.out]

end Go.Proofs.YtmnnhdegoapfcaaGreatDoor
