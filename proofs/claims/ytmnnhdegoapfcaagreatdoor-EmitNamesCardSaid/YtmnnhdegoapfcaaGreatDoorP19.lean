/- Layer 17, plain: calls' arguments are right code. No program in sight. -/
import Derived.Test.YtmnnhdegoapfcaaGreatDoorP18
import Derived.Test.YtmnnhdegoapfcaaGreatDoorP10
namespace Go.El
variable {S : List Int} {al : Alv}
theorem core_set {m : Mk} {s : InSt} (h : Core S al m s) (u p : Int) : Core S al m { s with set := u, put := p } := h.mono ⟨fun _ h => h, fun _ h => h, rfl, rfl⟩ h.lx h.ly h.en
theorem mono_set (s : InSt) (u p : Int) : Mono s { s with set := u, put := p } := ⟨fun _ h => h, fun _ h => h, rfl, rfl⟩
theorem core_x {m : Mk} {s : InSt} (h : Core S al m s) {a : Int} (ha : 1 ≤ a ∧ a ≤ 255) : Core S al m { s with x := s.x.set a.toNat true } ∧ Mono s { s with x := s.x.set a.toNat true } ∧ (s.x.set a.toNat true).getD a.toNat false = true := by
 have hj : a.toNat < s.x.length := by rw [h.lx]; omega
 have hm : Mono s { s with x := s.x.set a.toNat true } := ⟨fun j hj2 => by
  simp only
  rw [getD_set hj]
  split
  ·rfl
  ·exact hj2, fun _ h => h, rfl, rfl⟩
 exact ⟨h.mono hm (by simp [h.lx]) h.ly h.en, hm, by rw [getD_set hj, if_pos rfl]⟩
theorem rowS_eq {s : InSt} {i : Ins} {u : Nat} (hu : s.set = (u : Int) + 1) : s.rowS i = (if (({ s with set := (u : Int) } : InSt).rowV i).2.set = 0 then ((({ s with set := (u : Int) } : InSt).rowV i).1, { (({ s with set := (u : Int) } : InSt).rowV i).2 with x := (({ s with set := (u : Int) } : InSt).rowV i).2.x.set (({ s with set := (u : Int) } : InSt).rowV i).2.put.toNat true }) else (({ s with set := (u : Int) } : InSt).rowV i)) := by
 unfold InSt.rowS
 rw [if_neg (by omega)]
 have : s.set - 1 = (u : Int) := by omega
 rw [this]
theorem set_one {m m' : Mk} {s : InSt} {i : Ins} {r : Bool × InSt} {u : Nat} (hc : Core S al m s) (hu : s.set = (u : Int) + 1) (hun : s.uni = 0) (hp : 1 ≤ s.put ∧ s.put ≤ 255) (ho : 15 ≤ i.op ∧ i.op ≤ 18) (hi : insMay i = true) (hr : ({ s with set := (u : Int) } : InSt).rowV i = r) (hv : Vok S al m' { s with set := (u : Int) } r) (hm : m'.out = m.out) :
  ∃ s', Go1 S al m (m'.add i) s s' ∧ s'.uni = 0 ∧ s'.set = u ∧ s'.put = s.put ∧ (u = 0 → s'.x.getD s.put.toNat false = true) := by
 have hst : s.step i = if r.2.set = 0 then (r.1, { r.2 with x := r.2.x.set r.2.put.toNat true }) else r := by
  rw [step_set hc.en ho, rowS_eq hu, hr]
 have hset : r.2.set = (u : Int) := hv.set_
 have hput : r.2.put = s.put := hv.put
 have huni : r.2.uni = 0 := hv.uni.trans hun
 have hm0 : Mono s { s with set := (u : Int) } := ⟨fun _ h => h, fun _ h => h, rfl, rfl⟩
 by_cases h0 : u = 0
 ·subst h0
  rw [if_pos (by rw [hset]; rfl)] at hst
  obtain ⟨c1, c2, c3⟩ := core_x hv.core (a := r.2.put) (by rw [hput]; exact hp)
  refine ⟨_, .one (by simp only [Mk.add]; rw [hm]) hi (by rw [hst]; exact hv.ok) (by rw [hst]) (c1.code i) (hm0.trans (hv.mono.trans c2)), huni, hset, hput, fun _ => ?_⟩
  rw [← hput]
  exact c3
 ·rw [if_neg (by rw [hset]; omega)] at hst
  exact ⟨_, .one (by simp only [Mk.add]; rw [hm]) hi (by rw [hst]; exact hv.ok) (by rw [hst]) (hv.core.code i) (hm0.trans hv.mono), huni, hset, hput, fun h => absurd h h0⟩
structure Item (al : Int → Prop) (s : InSt) (x : Tm × Int) : Prop where
 ok : okT x.1 = true
 al : alT al x.1
 kn : x.1.k = 4 → (1 ≤ x.2 ∧ x.2 ≤ 255) ∧ s.x.getD x.2.toNat false = true
theorem Item.mono {al : Int → Prop} {s s' : InSt} {x : Tm × Int} (h : Item al s x) (g : Mono s s') : Item al s' x := ⟨h.ok, h.al, fun hk => ⟨(h.kn hk).1, g.x _ (h.kn hk).2⟩⟩
theorem core_set1 {m : Mk} {s : InSt} (h : Core S al m s) (u : Int) : Core S al m { s with set := u } := h.mono ⟨fun _ h => h, fun _ h => h, rfl, rfl⟩ h.lx h.ly h.en
theorem go_setS (hS : S.length ≤ 64) : ∀ (l : List (Tm × Int)) (m : Mk) (s : InSt), l ≠ [] → (∀ x ∈ l, Item al s x) → (setS S m l).next ≤ 255 → Core S al m s → s.set = l.length → s.uni = 0 → (1 ≤ s.put ∧ s.put ≤ 255) →
  ∃ s', Go1 S al m (setS S m l) s s' ∧ s'.uni = 0 ∧ s'.set = 0 ∧ s'.x.getD s.put.toNat false = true
 | [], _, _, h, _, _, _, _, _, _ => absurd rfl h
 | x :: r, m, s, _, hw, hn, hc, hs, hu, hp => by
  have hx := hw x (by simp)
  have hs1 : s.set = (r.length : Int) + 1 := by rw [hs]; simp
  have hc0 := core_set1 hc (r.length : Int)
  simp only [setS] at hn ⊢
  have hnn := fun m1 : Mk => (ex_setS S r m1).1
  -- one step, then the rest
  have key : ∀ (m1 : Mk) (i : Ins) (rr : Bool × InSt), (15 ≤ i.op ∧ i.op ≤ 18) → insMay i = true → ({ s with set := (r.length : Int) } : InSt).rowV i = rr → Vok S al m1 { s with set := (r.length : Int) } rr → m1.out = m.out → (setS S (m1.add i) r).next ≤ 255 →
    ∃ s', Go1 S al m (setS S (m1.add i) r) s s' ∧ s'.uni = 0 ∧ s'.set = 0 ∧ s'.x.getD s.put.toNat false = true := by
   intro m1 i rr ho hi hr hv hm hn1
   obtain ⟨s1, g1, g2, g3, g4, g5⟩ := set_one hc hs1 hu hp ho hi hr hv hm
   by_cases hr0 : r = []
   ·subst hr0
    exact ⟨s1, g1, g2, g3, g5 rfl⟩
   ·obtain ⟨s2, k1, k2, k3, k4⟩ := go_setS hS r (m1.add i) s1 hr0 (fun y hy => (hw y (List.mem_cons_of_mem _ hy)).mono g1.mono) hn1 g1.core g3 g2 (by rw [g4]; exact hp)
    exact ⟨s2, g1.trans k1, k2, k3, by rw [← g4]; exact k4⟩
  rcases simple_cases (S := S) hx.ok with ⟨k4, _, _, _, _, hsi⟩ | ⟨k1, hsi⟩ | ⟨k3, q1, hsi⟩ | ⟨k2, q1, hsi⟩
  ·simp only [hsi, Option.getD_none] at hn ⊢
   obtain ⟨hv, hk⟩ := hx.kn k4
   refine key m _ (true, { s with set := (r.length : Int) }) (by simp) (may_16 ⟨by omega, hv.2, by omega⟩) ?_ ⟨rfl, hc0, .refl _, rfl, rfl, rfl⟩ rfl hn
   unfold InSt.rowV
   rw [if_neg (by simp), if_pos (by simp)]
   have : ({ s with set := (r.length : Int) } : InSt).known x.2 = true := by
    unfold InSt.known
    rw [if_pos (by omega)]
    exact hk
   rw [this]
  ·simp only [hsi, Option.getD_some] at hn ⊢
   have h1 := hnn ((m.pick S x.1.n).2.2.add ⟨if (m.pick S x.1.n).2.1 then 15 else 15 + 1, ⟨#[]⟩, 0, (m.pick S x.1.n).1, 0⟩)
   simp only [next_add] at h1
   obtain ⟨hv, vk⟩ := pick_ok hS hc0 (al_var hx.al k1) (by omega)
   exact key _ _ _ (by cases (m.pick S x.1.n).2.1 <;> simp) (may_var (.inr rfl) _ hv) (rowV_set _ _ _) vk (pick_out S m x.1.n) hn
  ·simp only [hsi, Option.getD_some] at hn ⊢
   exact key m _ (true, { s with set := (r.length : Int) }) (by simp) (may_17 q1) rfl ⟨rfl, hc0, .refl _, rfl, rfl, rfl⟩ rfl hn
  ·simp only [hsi, Option.getD_some] at hn ⊢
   exact key m _ (true, { s with set := (r.length : Int) }) (by simp) (may_18 q1) rfl ⟨rfl, hc0, .refl _, rfl, rfl, rfl⟩ rfl hn
theorem zip_ne {α β : Type} {a : List α} {b : List β} (h : b.length = a.length) (ha : 1 ≤ a.length) : a.zip b ≠ [] := by
 intro e
 have := congrArg List.length e
 rw [List.length_zip, h, Nat.min_self, List.length_nil] at this
 omega
theorem store_var {s : InSt} {fi : Bool} {v a : Int} : s.store ⟨if fi then 10 else 10 + 1, ⟨#[]⟩, 0, v, a⟩ = ((vstep s fi v).1, { (vstep s fi v).2 with x := (vstep s fi v).2.x.set a.toNat true }) := by
 unfold InSt.store vstep
 cases fi <;> simp
mutual
theorem go_putT (hS : S.length ≤ 64) : ∀ (t : Tm) (a : Int) (m : Mk) (s : InSt), okT t = true → alT al t → (1 ≤ a ∧ a ≤ 255) → (putT S t a m).full = false → Core S al m s → s.uni = 0 → s.set = 0 →
  ∃ s', Go1 S al m (putT S t a m) s s' ∧ s'.uni = 0 ∧ s'.set = 0 ∧ s'.x.getD a.toNat false = true
 | .mk k n b l, a, m, s, hok, hal, ha, hf, hc, hu, hs => by
  simp only [putT] at hf ⊢
  rcases simple_cases (S := S) hok with ⟨k4, q1, q2, q3, q4, hsi⟩ | ⟨k1, hsi⟩ | ⟨k3, q1, hsi⟩ | ⟨k2, q1, hsi⟩
  ·simp only [hsi] at hf ⊢
   by_cases hm : m.full = true
   ·rw [if_pos hm] at hf
    rw [hm] at hf
    cases hf
   ·rw [if_neg hm] at hf ⊢
    simp only [Tm.l, Tm.s] at q1 q2 q3 q4
    have hf1 := (ex_setS S (l.zip (putL S l m).2) ((putL S l m).1.add ⟨14, b, l.length, 0, a⟩)).full hf
    have hf2 := (show Ex (putL S l m).1 ((putL S l m).1.add ⟨14, b, l.length, 0, a⟩) from Ex.add rfl).full hf1
    obtain ⟨s1, g1, g2, g3, g4, g5⟩ := go_putL hS l m s q4 (al_kids hal) hf2 hc hu hs
    have hst : s1.step ⟨14, b, l.length, 0, a⟩ = (true, { s1 with set := (l.length : Int), put := a }) := by
     rw [step_put g1.core.en g2 g3 (by simp)]
     unfold InSt.store
     rw [if_pos rfl]
    have g6 : Go1 S al (putL S l m).1 ((putL S l m).1.add ⟨14, b, l.length, 0, a⟩) s1 { s1 with set := (l.length : Int), put := a } := .one rfl (may_14 ha q1 (by omega)) (by rw [hst]) (by rw [hst]) ((core_set g1.core _ _).code _) (mono_set _ _ _)
    obtain ⟨s2, g7, g8, g9, g10⟩ := go_setS hS (l.zip (putL S l m).2) _ { s1 with set := (l.length : Int), put := a } (zip_ne g4 q2) (fun x hx => by
     have hx1 := (List.of_mem_zip hx).1
     exact ⟨okL_mem q4 hx1, alL_mem (al_kids hal) hx1, fun hk => g5 x hx hk⟩) (nx_of_full hf) g6.core (by rw [List.length_zip, g4]; simp) g2 ha
    exact ⟨s2, (g1.trans g6).trans g7, g8, g9, g10⟩
  ·simp only [hsi] at hf ⊢
   have hn := nx_of_full hf
   simp only [next_add] at hn
   obtain ⟨hv, vk⟩ := pick_ok hS hc (al_var hal k1) hn
   obtain ⟨c1, c2, c3⟩ := core_x vk.core ha
   have hst : s.step ⟨if (m.pick S (Tm.mk k n b l).n).2.1 then 10 else 10 + 1, ⟨#[]⟩, 0, (m.pick S (Tm.mk k n b l).n).1, a⟩ = ((vstep s (m.pick S (Tm.mk k n b l).n).2.1 (m.pick S (Tm.mk k n b l).n).1).1, { (vstep s (m.pick S (Tm.mk k n b l).n).2.1 (m.pick S (Tm.mk k n b l).n).1).2 with x := (vstep s (m.pick S (Tm.mk k n b l).n).2.1 (m.pick S (Tm.mk k n b l).n).1).2.x.set a.toNat true }) := by
    rw [step_put hc.en hu hs (by cases (m.pick S (Tm.mk k n b l).n).2.1 <;> simp)]
    exact store_var
   refine ⟨_, .one (by simp only [Mk.add]; rw [pick_out]) (may_vara (.inr rfl) _ hv ha) (by rw [hst]; exact vk.ok) (by rw [hst]) (c1.code _) (vk.mono.trans c2), vk.uni.trans hu, vk.set_.trans hs, c3⟩
  ·simp only [hsi] at hf ⊢
   obtain ⟨c1, c2, c3⟩ := core_x hc ha
   have hst : s.step ⟨10 + 2, (Tm.mk k n b l).s, 0, 0, a⟩ = (true, { s with x := s.x.set a.toNat true }) := by
    rw [step_put hc.en hu hs (by simp)]
    unfold InSt.store
    simp
   exact ⟨_, .one rfl (may_12 ha q1) (by rw [hst]) (by rw [hst]) (c1.code _) c2, hu, hs, c3⟩
  ·simp only [hsi] at hf ⊢
   obtain ⟨c1, c2, c3⟩ := core_x hc ha
   have hst : s.step ⟨10 + 3, ⟨#[]⟩, (Tm.mk k n b l).n, 0, a⟩ = (true, { s with x := s.x.set a.toNat true }) := by
    rw [step_put hc.en hu hs (by simp)]
    unfold InSt.store
    simp
   exact ⟨_, .one rfl (may_13 ha q1) (by rw [hst]) (by rw [hst]) (c1.code _) c2, hu, hs, c3⟩
theorem go_putL (hS : S.length ≤ 64) : ∀ (l : List Tm) (m : Mk) (s : InSt), okL l = true → alL al l → (putL S l m).1.full = false → Core S al m s → s.uni = 0 → s.set = 0 →
  ∃ s', Go1 S al m (putL S l m).1 s s' ∧ s'.uni = 0 ∧ s'.set = 0 ∧ (putL S l m).2.length = l.length ∧ ∀ x ∈ l.zip (putL S l m).2, x.1.k = 4 → (1 ≤ x.2 ∧ x.2 ≤ 255) ∧ s'.x.getD x.2.toNat false = true
 | [], m, s, _, _, _, hc, hu, hs => ⟨s, .refl hc, hu, hs, rfl, fun x hx => by cases hx⟩
 | t :: r, m, s, hok, hal, hf, hc, hu, hs => by
  simp only [okL, Bool.and_eq_true] at hok
  simp only [putL] at hf ⊢
  by_cases hk : t.k = 4
  ·rw [if_pos hk] at hf ⊢
   simp only at hf ⊢
   have hf1 := (ex_putL S r (putT S t (m.next + 1) m.take)).full hf
   have hn1 := nx_of_full hf1
   have hn2 := (ex_putT S t (m.next + 1) m.take).1
   have hn0 := hc.nx
   simp only [Mk.take] at hn2
   have ha : 1 ≤ m.next + 1 ∧ m.next + 1 ≤ 255 := ⟨by omega, by simp only [Mk.take] at hn1; omega⟩
   have hct : Core S al m.take s := ⟨hc.lx, hc.ly, hc.en, hc.kn, fun n v hf => by obtain ⟨r1, r2, r3, r4⟩ := hc.rg n v hf; exact ⟨r1, r2, by simp only [Mk.take]; omega, r4⟩, hc.sl, by simp only [Mk.take]; omega⟩
   obtain ⟨s1, g1, g2, g3, g4⟩ := go_putT hS t (m.next + 1) m.take s hok.1 hal.1 ha hf1 hct hu hs
   obtain ⟨s2, k1, k2, k3, k4, k5⟩ := go_putL hS r _ s1 hok.2 hal.2 hf g1.core g2 g3
   have g1' : Go1 S al m (putT S t (m.next + 1) m.take) s s1 := g1
   refine ⟨s2, g1'.trans k1, k2, k3, by simp [k4], fun x hx h4 => ?_⟩
   rw [List.zip_cons_cons] at hx
   rcases List.mem_cons.1 hx with rfl | hx
   ·exact ⟨ha, k1.mono.x _ g4⟩
   ·exact k5 x hx h4
  ·rw [if_neg hk] at hf ⊢
   simp only at hf ⊢
   obtain ⟨s2, k1, k2, k3, k4, k5⟩ := go_putL hS r m s hok.2 hal.2 hf hc hu hs
   refine ⟨s2, k1, k2, k3, by simp [k4], fun x hx h4 => ?_⟩
   rw [List.zip_cons_cons] at hx
   rcases List.mem_cons.1 hx with rfl | hx
   ·exact absurd h4 hk
   ·exact k5 x hx h4
end
end Go.El

/- Layer 15, plain: what a plan's slots are. No program in sight. -/
namespace Go.El
theorem note_names (k n : Int) : ∀ L : List Spn, (noteS k n L).map Spn.n = addV n (L.map Spn.n)
 | [] => by simp [noteS, addV]
 | x :: L => by
  have ih := note_names k n L
  simp only [noteS]
  by_cases h : x.n = n
  ·rw [if_pos h]
   simp [addV, h]
  ·rw [if_neg h, List.map_cons, ih]
   unfold addV
   by_cases hm : n ∈ L.map Spn.n
   ·rw [if_pos hm, if_pos (by rw [List.map_cons]; exact List.mem_cons_of_mem _ hm), List.map_cons]
   ·rw [if_neg hm, if_neg (by
     rw [List.map_cons]
     intro g
     rcases List.mem_cons.1 g with g | g
     ·exact h g.symm
     ·exact hm g), List.map_cons, List.cons_append]
theorem addV_nodup {n : Int} {l : List Int} (h : l.Nodup) : (addV n l).Nodup := by
 unfold addV
 by_cases hm : n ∈ l
 ·rw [if_pos hm]; exact h
 ·rw [if_neg hm]
  rw [List.nodup_append]
  exact ⟨h, by simp, fun a ha b hb e => by
   simp at hb
   subst hb
   subst e
   exact hm ha⟩
theorem note_mem {k n : Int} : ∀ {L : List Spn} {y : Spn}, y ∈ noteS k n L → (y ∈ L ∧ y.n ≠ n) ∨ (∃ x ∈ L, x.n = n ∧ y = { x with b := k }) ∨ (y = ⟨n, k, k⟩ ∧ ∀ x ∈ L, x.n ≠ n) ∨ (y ∈ L ∧ y.n = n ∧ ∃ x ∈ L, x.n = n ∧ { x with b := k } ∈ noteS k n L)
 | [], y, h => by
  simp only [noteS, List.mem_singleton] at h
  exact .inr (.inr (.inl ⟨h, fun x hx => by cases hx⟩))
 | x :: L, y, h => by
  simp only [noteS] at h ⊢
  by_cases hx : x.n = n
  ·rw [if_pos hx] at h ⊢
   rcases List.mem_cons.1 h with rfl | h
   ·exact .inr (.inl ⟨x, by simp, hx, rfl⟩)
   ·by_cases hy : y.n = n
    ·exact .inr (.inr (.inr ⟨List.mem_cons_of_mem _ h, hy, x, by simp, hx, by simp⟩))
    ·exact .inl ⟨List.mem_cons_of_mem _ h, hy⟩
  ·rw [if_neg hx] at h ⊢
   rcases List.mem_cons.1 h with rfl | h
   ·exact .inl ⟨by simp, hx⟩
   ·rcases note_mem h with ⟨h1, h2⟩ | ⟨z, h1, h2, h3⟩ | ⟨h1, h2⟩ | ⟨h1, h2, z, h3, h4, h5⟩
    ·exact .inl ⟨List.mem_cons_of_mem _ h1, h2⟩
    ·exact .inr (.inl ⟨z, List.mem_cons_of_mem _ h1, h2, h3⟩)
    ·refine .inr (.inr (.inl ⟨h1, fun z hz => ?_⟩))
     rcases List.mem_cons.1 hz with rfl | hz
     ·exact hx
     ·exact h2 z hz
    ·exact .inr (.inr (.inr ⟨List.mem_cons_of_mem _ h1, h2, z, List.mem_cons_of_mem _ h3, h4, List.mem_cons_of_mem _ h5⟩))
theorem note_new {k n : Int} : ∀ (L : List Spn), ∃ y ∈ noteS k n L, y.n = n ∧ y.b = k ∧ ((∃ x ∈ L, x.n = n ∧ y.a = x.a) ∨ ((∀ x ∈ L, x.n ≠ n) ∧ y.a = k))
 | [] => ⟨⟨n, k, k⟩, by simp [noteS], rfl, rfl, .inr ⟨fun x hx => (by cases hx), rfl⟩⟩
 | x :: L => by
  simp only [noteS]
  by_cases hx : x.n = n
  ·rw [if_pos hx]
   exact ⟨{ x with b := k }, by simp, hx, rfl, .inl ⟨x, by simp, hx, rfl⟩⟩
  ·rw [if_neg hx]
   obtain ⟨y, h1, h2, h3, h4⟩ := note_new (k := k) (n := n) L
   refine ⟨y, List.mem_cons_of_mem _ h1, h2, h3, ?_⟩
   rcases h4 with ⟨z, g1, g2, g3⟩ | ⟨g1, g2⟩
   ·exact .inl ⟨z, List.mem_cons_of_mem _ g1, g2, g3⟩
   ·refine .inr ⟨fun z hz => ?_, g2⟩
    rcases List.mem_cons.1 hz with rfl | hz
    ·exact hx
    ·exact g1 z hz
theorem note_old {k n : Int} : ∀ {L : List Spn} {x : Spn}, x ∈ L → x.n ≠ n → x ∈ noteS k n L
 | [], _, h, _ => by cases h
 | z :: L, x, h, hn => by
  simp only [noteS]
  by_cases hz : z.n = n
  ·rw [if_pos hz]
   rcases List.mem_cons.1 h with rfl | h
   ·exact absurd hz hn
   ·exact List.mem_cons_of_mem _ h
  ·rw [if_neg hz]
   rcases List.mem_cons.1 h with rfl | h
   ·simp
   ·exact List.mem_cons_of_mem _ (note_old h hn)
theorem uniq {L : List Spn} (h : (L.map Spn.n).Nodup) {x y : Spn} (hx : x ∈ L) (hy : y ∈ L) (e : x.n = y.n) : x = y := by
 induction L with
 | nil => cases hx
 | cons z L ih =>
  rw [List.map_cons, List.nodup_cons] at h
  rcases List.mem_cons.1 hx with h1 | h1 <;> rcases List.mem_cons.1 hy with h2 | h2
  ·rw [h1, h2]
  ·exact absurd (by rw [← h1, e]; exact List.mem_map_of_mem h2) h.1
  ·exact absurd (by rw [← h2, ← e]; exact List.mem_map_of_mem h1) h.1
  ·exact ih h.2 h1 h2
structure Sps (L : List Spn) (k : Nat) : Prop where
 nd : (L.map Spn.n).Nodup
 ab : ∀ x ∈ L, 0 ≤ x.a ∧ x.a ≤ x.b ∧ x.b ≤ k
 lv : ∀ x ∈ L, x.n = -1 → x.a = 0
def Grow (L L' : List Spn) : Prop := ∀ x ∈ L, ∃ y ∈ L', y.n = x.n ∧ y.a = x.a ∧ x.b ≤ y.b
theorem Grow.refl (L : List Spn) : Grow L L := fun x hx => ⟨x, hx, rfl, rfl, Int.le_refl _⟩
theorem Grow.trans {a b c : List Spn} (h : Grow a b) (g : Grow b c) : Grow a c := fun x hx => by
 obtain ⟨y, h1, h2, h3, h4⟩ := h x hx
 obtain ⟨z, g1, g2, g3, g4⟩ := g y h1
 exact ⟨z, g1, g2.trans h2, g3.trans h3, Int.le_trans h4 g4⟩
theorem note_sps {L : List Spn} {k : Nat} {n : Int} (h : Sps L k) (hn : n ≠ -1) : Sps (noteS k n L) k ∧ Grow L (noteS k n L) ∧ ∃ y ∈ noteS k n L, y.n = n ∧ y.a ≤ k ∧ k ≤ y.b := by
 have hnd : ((noteS k n L).map Spn.n).Nodup := by rw [note_names]; exact addV_nodup h.nd
 obtain ⟨y, y1, y2, y3, y4⟩ := note_new (k := k) (n := n) L
 refine ⟨⟨hnd, fun z hz => ?_, fun z hz he => ?_⟩, fun x hx => ?_, y, y1, y2, ?_, by omega⟩
 ·rcases note_mem hz with ⟨h1, _⟩ | ⟨x, h1, _, rfl⟩ | ⟨rfl, _⟩ | ⟨h1, _⟩
  ·exact h.ab z h1
  ·have := h.ab x h1
   exact ⟨this.1, by show x.a ≤ (k : Int); omega, Int.le_refl _⟩
  ·exact ⟨by show (0 : Int) ≤ k; omega, Int.le_refl _, Int.le_refl _⟩
  ·exact h.ab z h1
 ·rcases note_mem hz with ⟨h1, _⟩ | ⟨x, h1, h2, rfl⟩ | ⟨rfl, _⟩ | ⟨h1, _⟩
  ·exact h.lv z h1 he
  ·exact absurd (h2.symm.trans he) hn
  ·exact absurd he hn
  ·exact h.lv z h1 he
 ·by_cases hxn : x.n = n
  ·rcases y4 with ⟨x', h1, h2, h3⟩ | ⟨h1, _⟩
   ·obtain rfl := uniq h.nd hx h1 (hxn.trans h2.symm)
    exact ⟨y, y1, y2.trans hxn.symm, h3, by have := (h.ab x hx).2.2; omega⟩
   ·exact absurd hxn (h1 x hx)
  ·exact ⟨x, note_old hx hxn, rfl, rfl, Int.le_refl _⟩
 ·rcases y4 with ⟨x', h1, h2, h3⟩ | ⟨_, h1⟩
  ·have := h.ab x' h1
   omega
  ·omega
theorem level_sps {L : List Spn} {k : Nat} (h : Sps L k) : Sps (noteS k (-1) (noteS 0 (-1) L)) k ∧ Grow L (noteS k (-1) (noteS 0 (-1) L)) ∧ ∃ y ∈ noteS k (-1) (noteS 0 (-1) L), y.n = -1 ∧ (k : Int) ≤ y.b := by
 have hnd1 : ((noteS 0 (-1) L).map Spn.n).Nodup := by rw [note_names]; exact addV_nodup h.nd
 have hnd : ((noteS k (-1) (noteS 0 (-1) L)).map Spn.n).Nodup := by rw [note_names]; exact addV_nodup hnd1
 obtain ⟨y, y1, y2, y3, y4⟩ := note_new (k := (k : Int)) (n := -1) (noteS 0 (-1) L)
 have ha : ∀ z ∈ noteS 0 (-1) L, z.n = -1 → z.a = 0 := by
  intro z hz he
  rcases note_mem hz with ⟨h1, _⟩ | ⟨x, h1, h2, rfl⟩ | ⟨rfl, _⟩ | ⟨h1, _⟩
  ·exact h.lv z h1 he
  ·exact h.lv x h1 h2
  ·rfl
  ·exact h.lv z h1 he
 have hab : ∀ z ∈ noteS 0 (-1) L, 0 ≤ z.a ∧ (z.n ≠ -1 → z ∈ L) := by
  intro z hz
  rcases note_mem hz with ⟨h1, _⟩ | ⟨x, h1, h2, rfl⟩ | ⟨rfl, _⟩ | ⟨h1, _⟩
  ·exact ⟨(h.ab z h1).1, fun _ => h1⟩
  ·exact ⟨(h.ab x h1).1, fun g => absurd h2 g⟩
  ·exact ⟨Int.le_refl _, fun g => absurd rfl g⟩
  ·exact ⟨(h.ab z h1).1, fun _ => h1⟩
 have hya : y.a = 0 := by
  rcases y4 with ⟨x', h1, h2, h3⟩ | ⟨h1, _⟩
  ·rw [h3]; exact ha x' h1 h2
  ·exfalso
   obtain ⟨z, z1, z2, _⟩ := note_new (k := (0 : Int)) (n := -1) L
   exact h1 z z1 z2
 have hyu : ∀ z ∈ noteS k (-1) (noteS 0 (-1) L), z.n = -1 → z = y := fun z hz he => uniq hnd hz y1 (he.trans y2.symm)
 have hother : ∀ z ∈ noteS k (-1) (noteS 0 (-1) L), z.n ≠ -1 → z ∈ L := by
  intro z hz hn
  rcases note_mem hz with ⟨h1, _⟩ | ⟨x, h1, h2, rfl⟩ | ⟨rfl, _⟩ | ⟨h1, h2, _⟩
  ·exact (hab z h1).2 hn
  ·exact absurd h2 hn
  ·exact absurd rfl hn
  ·exact absurd h2 hn
 refine ⟨⟨hnd, fun z hz => ?_, fun z hz he => ?_⟩, fun x hx => ?_, y, y1, y2, by omega⟩
 ·by_cases he : z.n = -1
  ·rw [hyu z hz he]
   omega
  ·exact h.ab z (hother z hz he)
 ·rw [hyu z hz he]; exact hya
 ·by_cases he : x.n = -1
  ·exact ⟨y, y1, y2.trans he.symm, hya.trans (h.lv x hx he).symm, by have := (h.ab x hx).2.2; omega⟩
  ·exact ⟨x, note_old (note_old hx he) he, rfl, rfl, Int.le_refl _⟩
theorem notes_sps {k : Nat} : ∀ {ns : List Int} {L : List Spn}, Sps L k → (∀ n ∈ ns, n ≠ -1) → Sps (notesS k ns L) k ∧ Grow L (notesS k ns L) ∧ ∀ n ∈ ns, ∃ y ∈ notesS k ns L, y.n = n ∧ y.a ≤ k ∧ k ≤ y.b
 | [], L, h, _ => ⟨h, .refl L, fun n hn => by cases hn⟩
 | m :: ns, L, h, hns => by
  obtain ⟨h1, h2, y, y1, y2, y3, y4⟩ := note_sps h (hns m (by simp))
  obtain ⟨g1, g2, g3⟩ := notes_sps (ns := ns) h1 (fun n hn => hns n (List.mem_cons_of_mem _ hn))
  refine ⟨g1, h2.trans g2, fun n hn => ?_⟩
  rcases List.mem_cons.1 hn with rfl | hn
  ·obtain ⟨z, z1, z2, z3, z4⟩ := g2 y y1
   exact ⟨z, z1, z2.trans y2, by omega, by omega⟩
  ·exact g3 n hn
theorem Sps.up {L : List Spn} {k k' : Nat} (h : Sps L k) (hk : k ≤ k') : Sps L k' := ⟨h.nd, fun x hx => by have := h.ab x hx; omega, h.lv⟩
def Fit (L : List Spn) : List (Int × Tm) → Nat → Prop
 | [], _ => True
 | g :: r, k => (g.1 = 3 ∨ (g.1 = 2 ∧ 0 < k) → ∃ x ∈ L, x.n = -1 ∧ (k : Int) ≤ x.b) ∧ (g.1 ≠ 2 → ∀ n ∈ vsT g.2 [], ∃ x ∈ L, x.n = n ∧ x.a ≤ k ∧ k ≤ x.b) ∧ Fit L r (if g.1 = 2 then k else k + 1)
def Less (L : List Spn) (k : Nat) : Prop := ∀ x ∈ L, x.n ≠ -1 → x.b = 0 ∨ x.b < k
theorem gath_fit : ∀ (gs : List (Int × Tm)) (L : List Spn) (k : Nat), Sps L k → Less L k → (∀ g ∈ gs, ∀ n ∈ vsT g.2 [], n ≠ -1) →
  Fit (gs.foldl gathG (L, k)).1 gs k ∧ Sps (gs.foldl gathG (L, k)).1 (gs.foldl gathG (L, k)).2 ∧ Grow L (gs.foldl gathG (L, k)).1 ∧ Less (gs.foldl gathG (L, k)).1 (gs.foldl gathG (L, k)).2 ∧ k ≤ (gs.foldl gathG (L, k)).2
 | [], L, k, h, hl, _ => ⟨trivial, h, .refl L, hl, Nat.le_refl _⟩
 | g :: r, L, k, h, hl, hv => by
  rw [List.foldl_cons]
  -- the level
  obtain ⟨L1, hL1, s1, g1, e1, l1⟩ : ∃ L1, (if g.1 = 3 ∨ (g.1 = 2 ∧ 0 < k) then noteS k (-1) (noteS 0 (-1) L) else L) = L1 ∧ Sps L1 k ∧ Grow L L1 ∧ (g.1 = 3 ∨ (g.1 = 2 ∧ 0 < k) → ∃ x ∈ L1, x.n = -1 ∧ (k : Int) ≤ x.b) ∧ Less L1 k := by
   by_cases hc : g.1 = 3 ∨ (g.1 = 2 ∧ 0 < k)
   ·obtain ⟨a1, a2, a3⟩ := level_sps h
    refine ⟨_, if_pos hc, a1, a2, fun _ => a3, fun x hx hn => ?_⟩
    have key : ∀ {k' : Int} {M : List Spn} {z : Spn}, z ∈ noteS k' (-1) M → z.n ≠ -1 → z ∈ M := by
     intro k' M z hz hn
     rcases note_mem hz with ⟨h1, _⟩ | ⟨x, h1, h2, rfl⟩ | ⟨rfl, _⟩ | ⟨h1, h2, _⟩
     ·exact h1
     ·exact absurd h2 hn
     ·exact absurd rfl hn
     ·exact absurd h2 hn
    exact hl x (key (key hx hn) hn) hn
   ·exact ⟨L, if_neg hc, h, .refl L, fun g => absurd g hc, hl⟩
  by_cases hg : g.1 = 2
  ·have hgg : gathG (L, k) g = (L1, k) := by
    unfold gathG
    simp only
    rw [hL1, if_pos hg]
   rw [hgg]
   obtain ⟨f1, f2, f3, f4, f5⟩ := gath_fit r L1 k s1 l1 (fun g hg => hv g (List.mem_cons_of_mem _ hg))
   refine ⟨⟨fun hc => ?_, fun h => absurd hg h, by rw [if_pos hg]; exact f1⟩, f2, g1.trans f3, f4, f5⟩
   obtain ⟨x, x1, x2, x3⟩ := e1 hc
   obtain ⟨y, y1, y2, y3, y4⟩ := f3 x x1
   exact ⟨y, y1, y2.trans x2, by omega⟩
  ·obtain ⟨n1, n2, n3⟩ := notes_sps (ns := vsT g.2 []) s1 (hv g (by simp))
   have hgg : gathG (L, k) g = (notesS k (vsT g.2 []) L1, k + 1) := by
    unfold gathG
    simp only
    rw [hL1, if_neg hg]
   rw [hgg]
   have hless : Less (notesS k (vsT g.2 []) L1) (k + 1) := fun x hx _ => by have := (n1.ab x hx).2.2; omega
   obtain ⟨f1, f2, f3, f4, f5⟩ := gath_fit r _ (k + 1) (n1.up (by omega)) hless (fun g hg => hv g (List.mem_cons_of_mem _ hg))
   refine ⟨⟨fun hc => ?_, fun _ n hn => ?_, by rw [if_neg hg]; exact f1⟩, f2, g1.trans (n2.trans f3), f4, by omega⟩
   ·obtain ⟨x, x1, x2, x3⟩ := e1 hc
    obtain ⟨y, y1, y2, y3, y4⟩ := n2.trans f3 x x1
    exact ⟨y, y1, y2.trans x2, by omega⟩
   ·obtain ⟨x, x1, x2, x3, x4⟩ := n3 n hn
    obtain ⟨y, y1, y2, y3, y4⟩ := f3 x x1
    exact ⟨y, y1, y2.trans x2, by omega, by omega⟩
def Desc (l : List Spn) : Prop := l.Pairwise fun x y => y.b ≤ x.b
theorem ins_mem {x y : Spn} : ∀ {l : List Spn}, y ∈ spIns x l ↔ y = x ∨ y ∈ l
 | [] => by simp [spIns]
 | z :: l => by
  simp only [spIns]
  split
  ·rw [List.mem_cons, ins_mem (l := l), List.mem_cons]
   constructor
   ·rintro (h | h | h)
    ·exact .inr (.inl h)
    ·exact .inl h
    ·exact .inr (.inr h)
   ·rintro (h | h | h)
    ·exact .inr (.inl h)
    ·exact .inl h
    ·exact .inr (.inr h)
  ·simp
theorem ins_desc {x : Spn} : ∀ {l : List Spn}, Desc l → Desc (spIns x l)
 | [], _ => by simp [spIns, Desc]
 | z :: l, h => by
  unfold Desc at h ⊢
  rw [List.pairwise_cons] at h
  simp only [spIns]
  split
  ·next hz =>
   rw [List.pairwise_cons]
   refine ⟨fun y hy => ?_, ins_desc h.2⟩
   rcases ins_mem.1 hy with rfl | hy
   ·unfold spLt at hz
    simp only [Bool.or_eq_true, Bool.and_eq_true, decide_eq_true_eq] at hz
    omega
   ·exact h.1 y hy
  ·next hz =>
   have hzx : z.b ≤ x.b := by
    unfold spLt at hz
    simp only [Bool.or_eq_true, Bool.and_eq_true, decide_eq_true_eq] at hz
    omega
   rw [List.pairwise_cons, List.pairwise_cons]
   refine ⟨fun y hy => ?_, h.1, h.2⟩
   rcases List.mem_cons.1 hy with rfl | hy
   ·exact hzx
   ·have := h.1 y hy
    omega
theorem sort_mem {y : Spn} : ∀ {l acc : List Spn}, y ∈ l.foldl (fun l x => spIns x l) acc ↔ y ∈ acc ∨ y ∈ l
 | [], acc => by simp
 | x :: l, acc => by
  rw [List.foldl_cons, sort_mem (l := l), ins_mem, List.mem_cons]
  constructor
  ·rintro ((h | h) | h)
   ·exact .inr (.inl h)
   ·exact .inl h
   ·exact .inr (.inr h)
  ·rintro (h | h | h)
   ·exact .inl (.inr h)
   ·exact .inl (.inl h)
   ·exact .inr h
theorem sort_desc : ∀ {l acc : List Spn}, Desc acc → Desc (l.foldl (fun l x => spIns x l) acc)
 | [], _, h => h
 | _ :: l, _, h => sort_desc (l := l) (ins_desc h)
theorem slots_mem {c : Cls} {x : Spn} : x ∈ slotsF c ↔ x ∈ (gathF c).1 ∧ perm x = true := by
 unfold slotsF spSort
 rw [sort_mem, List.mem_filter]
 simp
theorem slots_desc (c : Cls) : Desc (slotsF c) := sort_desc (by simp [Desc])
theorem slot_at {l : List Spn} {n v : Int} (h : slotN (l.map Spn.n) n = some v) : ∃ (i : Nat) (x : Spn), l[i]? = some x ∧ x.n = n ∧ v = -(i : Int) - 1 := by
 unfold slotN at h
 cases hi : (l.map Spn.n).findIdx? (fun x => decide (x = n)) with
 | none => rw [hi] at h; cases h
 | some i =>
  rw [hi] at h
  injection h with h
  have h2 : -(i : Int) - 1 = v := h
  obtain ⟨h3, h4, _⟩ := List.findIdx?_eq_some_iff_getElem.1 hi
  have h5 : i < l.length := by simpa using h3
  refine ⟨i, l[i], List.getElem?_eq_getElem h5, ?_, h2.symm⟩
  simpa using h4
theorem slot_no {l : List Spn} {n : Int} (h : slotN (l.map Spn.n) n = none) : ∀ x ∈ l, x.n ≠ n := by
 unfold slotN at h
 rw [Option.map_eq_none_iff, List.findIdx?_eq_none_iff] at h
 intro x hx e
 have := h x.n (List.mem_map_of_mem hx)
 simp [e] at this
theorem live_bd (l : List Spn) (k : Nat) : 0 ≤ liveF l k ∧ liveF l k ≤ l.length := by
 unfold liveF
 cases hi : l.findIdx? (fun x => decide (x.b ≤ (k : Int))) with
 | none => simp
 | some i =>
  obtain ⟨h, _⟩ := List.findIdx?_eq_some_iff_getElem.1 hi
  simp only [Option.getD_some]
  omega
theorem live_lt {l : List Spn} (h : Desc l) {k i : Nat} {x : Spn} (hx : l[i]? = some x) (hb : (k : Int) < x.b) : (i : Int) < liveF l k := by
 have hlt : i < l.length := (List.getElem?_eq_some_iff.1 hx).1
 unfold liveF
 cases hi : l.findIdx? (fun x => decide (x.b ≤ (k : Int))) with
 | none => simp only [Option.getD_none]; omega
 | some j =>
  obtain ⟨h1, h2, h3⟩ := List.findIdx?_eq_some_iff_getElem.1 hi
  simp only [Option.getD_some]
  have hj : l[j].b ≤ (k : Int) := by simpa using h2
  have hxe : l[i] = x := (List.getElem?_eq_some_iff.1 hx).2
  rcases Nat.lt_or_ge i j with g | g
  ·omega
  ·exfalso
   rcases Nat.lt_or_ge j i with g2 | g2
   ·have := (List.pairwise_iff_getElem.1 h) j i h1 hlt g2
    rw [hxe] at this
    omega
   ·obtain rfl : i = j := by omega
    rw [hxe] at hj
    omega
theorem live_down {l : List Spn} (h : Desc l) {k k' : Nat} (hk : k ≤ k') : liveF l k' ≤ liveF l k := by
 have hb := live_bd l k'
 by_cases g : liveF l k < liveF l k'
 ·exfalso
  have hb2 := live_bd l k
  obtain ⟨i, hi⟩ : ∃ i : Nat, liveF l k = i := ⟨(liveF l k).toNat, by omega⟩
  have hlt : i < l.length := by omega
  -- at i: its b is at most k
  have h1 : l[i].b ≤ (k : Int) := by
   by_cases q : (k : Int) < l[i].b
   ·have := live_lt h (List.getElem?_eq_getElem hlt) q
    omega
   ·omega
  -- so the later one is no further
  unfold liveF at g hi hb
  cases hj : l.findIdx? (fun x => decide (x.b ≤ (k' : Int))) with
  | none =>
   have := List.findIdx?_eq_none_iff.1 hj l[i] (List.getElem_mem hlt)
   simp only [decide_eq_false_iff_not] at this
   omega
  | some j =>
   obtain ⟨q1, q2, q3⟩ := List.findIdx?_eq_some_iff_getElem.1 hj
   rw [hj] at g
   simp only [Option.getD_some] at g
   have := q3 i (by omega)
   simp only [decide_eq_true_eq] at this
   omega
 ·omega
theorem lev_slot {l : List Spn} : (0 < levF l → slotN (l.map Spn.n) (-1) = some (-levF l)) ∧ ((∃ x ∈ l, x.n = -1) → 0 < levF l) ∧ 0 ≤ levF l ∧ levF l ≤ l.length := by
 unfold levF slotN
 have e : (l.map Spn.n).findIdx? (fun x => decide (x = -1)) = l.findIdx? (fun x => decide (x.n = -1)) := by
  rw [List.findIdx?_map]
  rfl
 rw [e]
 cases hi : l.findIdx? (fun x => decide (x.n = -1)) with
 | none =>
  refine ⟨fun h => absurd h (by decide), fun ⟨x, hx, hn⟩ => ?_, by decide, by simp⟩
  have := List.findIdx?_eq_none_iff.1 hi x hx
  simp [hn] at this
 | some i =>
  obtain ⟨h, _⟩ := List.findIdx?_eq_some_iff_getElem.1 hi
  simp only
  exact ⟨fun _ => (by show some (-(i : Int) - 1) = some (-((i : Int) + 1)); congr 1; omega), fun _ => (by omega), by omega, by omega⟩
end Go.El
