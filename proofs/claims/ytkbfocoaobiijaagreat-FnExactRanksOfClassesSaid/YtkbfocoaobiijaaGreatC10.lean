/- Contracts of comparisons: of numbers, of lists, of maps; the maps are valid where the theorems say so. -/
import Derived.Test.YtkbfocoaobiijaaGreatC3
import Derived.Test.YtkbfocoaobiijaaGreatC5
import Derived.Test.YtkbfocoaobiijaaGreatC7
import Derived.Test.YtkbfocoaobiijaaGreatS1
import Derived.Test.YtkbfocoaobiijaaGreatReg
import Derived.Deep.QuietTactic
import Derived.BigQuiet
namespace Go.Proofs.YtkbfocoaobiijaaGreat
open Go.RowKit
set_option maxRecDepth 100000

def cmpI (a b : Int) : Int := if a < b then -1 else if b < a then 1 else 0
theorem cmpI_lt {a b : Int} (h : a < b) : cmpI a b = -1 := by simp [cmpI, h]
theorem cmpI_gt {a b : Int} (h : b < a) : cmpI a b = 1 := by rw [cmpI, if_neg (by omega), if_pos h]
theorem cmpI_eq {a b : Int} (h : a = b) : cmpI a b = 0 := by rw [cmpI, if_neg (by omega), if_neg (by omega)]
theorem cmpI_bd (a b : Int) : -1 ≤ cmpI a b ∧ cmpI a b ≤ 1 := by unfold cmpI; split <;> (try split) <;> omega
theorem cmpI_ne {a b : Int} : cmpI a b ≠ 0 ↔ a ≠ b := by unfold cmpI; split <;> (try split) <;> omega
theorem cmpI_neg {a b : Int} : cmpI a b = -1 ↔ a < b := by unfold cmpI; split <;> (try split) <;> omega
theorem cmpI_swap (a b : Int) : cmpI b a = - cmpI a b := by unfold cmpI; split <;> (try split) <;> (try split) <;> omega

theorem isNaN2 (x : Int) (w : World) : Calls Tryz.prog 248 #[I x] w fun e w' => e = .returned (.bool false) ∧ w = w' := by
  have h : (x != x) = false := by simp
  go_enter Tryz.func248, Tryz.ntmps248
  go_wp2
  go_ret
  exact ⟨by simp, rfl⟩

theorem compareI_any (x y : Int) (w : World) : Calls Tryz.prog 217 #[I x, I y] w fun e w' => e = .returned (I (cmpI x y)) ∧ w = w' := by
  by_cases h1 : x < y
  · have Hr := Lib.hid (cmpI_lt h1)
    go_enter Tryz.func217, Tryz.ntmps217
    go_wp2_with (go_at_call 248; refine (isNaN2 _ _).mono ?_; rintro e w' ⟨rfl, rfl⟩)
    go_ret
    exact ⟨ret_int Hr.out.symm, rfl⟩
  · by_cases h2 : y < x
    · have Hr := Lib.hid (cmpI_gt h2)
      go_enter Tryz.func217, Tryz.ntmps217
      go_wp2_with (go_at_call 248; refine (isNaN2 _ _).mono ?_; rintro e w' ⟨rfl, rfl⟩)
      go_ret
      exact ⟨ret_int Hr.out.symm, rfl⟩
    · have Hr := Lib.hid (cmpI_eq (show x = y by omega))
      go_enter Tryz.func217, Tryz.ntmps217
      go_wp2_with (go_at_call 248; refine (isNaN2 _ _).mono ?_; rintro e w' ⟨rfl, rfl⟩)
      go_ret
      exact ⟨ret_int Hr.out.symm, rfl⟩

/-- lists in the order of a dictionary -/
def cmpL : List Int → List Int → Int
  | [], [] => 0
  | [], _ :: _ => -1
  | _ :: _, [] => 1
  | x :: xs, y :: ys => if cmpI x y = 0 then cmpL xs ys else cmpI x y
theorem cmpL_at : ∀ {k : Nat} {xs ys : List Int}, k < xs.length → k < ys.length → (∀ j, j < k → gi xs j = gi ys j) → gi xs k ≠ gi ys k → cmpL xs ys = cmpI (gi xs k) (gi ys k)
  | _, [], _, h, _, _, _ => by simp at h
  | _, _ :: _, [], _, h, _, _ => by simp at h
  | 0, x :: xs, y :: ys, _, _, _, hne => by
    have : x ≠ y := by simpa [gi] using hne
    rw [cmpL, if_neg (cmpI_ne.2 this)]; rfl
  | k + 1, x :: xs, y :: ys, h1, h2, he, hne => by
    have h0 : x = y := by simpa [gi] using he 0 (by omega)
    rw [cmpL, if_pos (cmpI_eq h0), cmpL_at (k := k) (by simpa using h1) (by simpa using h2) (fun j hj => by simpa [gi] using he (j + 1) (by omega)) (by simpa [gi] using hne)]
    simp [gi]
theorem cmpL_pre : ∀ {xs ys : List Int}, (∀ j, j < xs.length → j < ys.length → gi xs j = gi ys j) → cmpL xs ys = cmpI xs.length ys.length
  | [], [], _ => by simp [cmpL, cmpI]
  | [], _ :: _, _ => by rw [cmpL, cmpI_lt]; simp
  | _ :: _, [], _ => by rw [cmpL, cmpI_gt]; simp
  | x :: xs, y :: ys, h => by
    have h0 : x = y := by simpa [gi] using h 0 (by simp) (by simp)
    rw [cmpL, if_pos (cmpI_eq h0), cmpL_pre (fun j h1 h2 => by simpa [gi] using h (j + 1) (by simpa using h1) (by simpa using h2))]
    unfold cmpI
    simp

theorem compareL_any (A C : Option Addr) (n c m d : Nat) (xs ys : List Int) (w : World) (hx : RdI w w.heap.size A xs) (hy : RdI w w.heap.size C ys) (hn : xs.length = n) (hm : ys.length = m) (hb : n < 1073741824) (hbm : m < 1073741824) :
    Calls Tryz.prog 136 #[.slice A n c, .slice C m d] w fun e w' => e = .returned (I (cmpL xs ys)) ∧ w = w' := by
  have Hn := Lib.hid hn
  have Hm := Lib.hid hm
  have Hx := Lib.hid hx
  have Hy := Lib.hid hy
  clear hn hx hm hy
  go_enter Tryz.func136, Tryz.ntmps136
  go_wp2
  go_loop [11] (fun i => ∃ k : Nat, k ≤ n ∧ k ≤ m ∧ i = .int .i64 k ∧ Hid (∀ j, j < k → gi xs j = gi ys j)) (fun i => n - (intOf i).toNat)
  case atStart => exact ⟨0, by omega, by omega, rfl, fun j hj => absurd hj (by omega)⟩
  case round =>
    obtain ⟨k, hk, hk2, rfl, hg⟩ := hrel
    by_cases hlt : k < n
    · obtain ⟨b, off, rfl, hbb, c1⟩ := Hx.out.at_ (k := k) (by rw [Hn.out]; exact hlt)
      by_cases hlt2 : k < m
      · obtain ⟨b2, off2, rfl, hbb2, c2⟩ := Hy.out.at_ (k := k) (by rw [Hm.out]; exact hlt2)
        have hbd1 := (cmpI_bd (gi xs k) (gi ys k)).1
        have hbd2 := (cmpI_bd (gi xs k) (gi ys k)).2
        by_cases he : gi xs k = gi ys k
        · have hz : (cmpI (gi xs k) (gi ys k) != 0) = false := by rw [cmpI_eq he]; rfl
          have Hr : Hid (∀ j, j < k + 1 → gi xs j = gi ys j) := by
            intro j hj
            by_cases e : j = k
            · subst e; exact he
            · exact hg.out j (by omega)
          clear he
          go_wp2_with (go_at_call 217; refine (compareI_any _ _ _).mono ?_; rintro e w' ⟨rfl, rfl⟩)
          go_round
          case rel => exact ⟨k + 1, by omega, by omega, by go_num, Hr.out⟩
          case measure => simp [intOf]; omega
        · have hz : (cmpI (gi xs k) (gi ys k) != 0) = true := by simpa using cmpI_ne.2 he
          have Hr : Hid (cmpL xs ys = cmpI (gi xs k) (gi ys k)) := cmpL_at (by rw [Hn.out]; exact hlt) (by rw [Hm.out]; exact hlt2) hg.out he
          clear he
          go_wp2_with (go_at_call 217; refine (compareI_any _ _ _).mono ?_; rintro e w' ⟨rfl, rfl⟩)
          go_ret
          exact ⟨ret_int Hr.out.symm, rfl⟩
      · have Hr : Hid (cmpL xs ys = 1) := by
          show _ = _
          rw [cmpL_pre fun j _ h2 => hg.out j (by have := Hm.out; omega), cmpI_gt]
          have := Hn.out; have := Hm.out; omega
        go_wp2
        go_ret
        exact ⟨ret_int Hr.out.symm, rfl⟩
    · by_cases hlt2 : n < m
      · have Hr : Hid (cmpL xs ys = -1) := by
          show _ = _
          rw [cmpL_pre fun j h1 _ => hg.out j (by have := Hn.out; omega), cmpI_lt]
          have := Hn.out; have := Hm.out; omega
        go_wp2
        go_ret
        exact ⟨ret_int Hr.out.symm, rfl⟩
      · have Hr : Hid (cmpL xs ys = 0) := by
          show _ = _
          rw [cmpL_pre fun j h1 _ => hg.out j (by have := Hn.out; omega), cmpI_eq]
          have := Hn.out; have := Hm.out; omega
        go_wp2
        go_ret
        exact ⟨ret_int Hr.out.symm, rfl⟩

/-- the first of two numbers that is not zero -/
def or2 (a b : Int) : Int := if a = 0 then b else a

theorem or2_any (g c : Nat) (a b : Int) (w : World) (h0 : w.cell? ⟨g, 0, none⟩ = some (I a)) (h1 : w.cell? ⟨g, 1, none⟩ = some (I b)) :
    Calls Tryz.prog 243 #[.slice (some ⟨g, 0, none⟩) 2 c] w fun e w' => e = .returned (I (or2 a b)) ∧ w = w' := by
  go_enter Tryz.func243, Tryz.ntmps243
  go_wp2
  go_loop [8] (fun i => ∃ k : Nat, k ≤ 2 ∧ i = .int .i64 k ∧ Hid (1 ≤ k → a = 0) ∧ Hid (2 ≤ k → b = 0)) (fun i => 2 - (intOf i).toNat)
  case atStart => exact ⟨0, by omega, rfl, fun h => by omega, fun h => by omega⟩
  case round =>
    obtain ⟨k, hk, rfl, ha, hb⟩ := hrel
    match k, hk with
    | 0, _ =>
      by_cases hz : a = 0
      · have hzb : (a != 0) = false := by simp [hz]
        have Hz := Lib.hid hz
        clear hz
        go_wp2
        go_round
        case rel => exact ⟨1, by omega, by go_num, fun _ => Hz.out, fun h => by omega⟩
        case measure => simp [intOf]
      · have hzb : (a != 0) = true := by simp [hz]
        have Hr : Hid (or2 a b = a) := by show _ = _; simp [or2, hz]
        clear hz
        go_wp2
        go_ret
        exact ⟨ret_int Hr.out.symm, rfl⟩
    | 1, _ =>
      have Ha := Lib.hid (ha.out (by omega))
      by_cases hz : b = 0
      · have hzb : (b != 0) = false := by simp [hz]
        have Hz := Lib.hid hz
        clear hz
        go_wp2
        go_round
        case rel => exact ⟨2, by omega, by go_num, fun _ => Ha.out, fun _ => Hz.out⟩
        case measure => simp [intOf]
      · have hzb : (b != 0) = true := by simp [hz]
        have Hr : Hid (or2 a b = b) := by show _ = _; simp [or2, Ha.out]
        clear hz
        go_wp2
        go_ret
        exact ⟨ret_int Hr.out.symm, rfl⟩
    | 2, _ =>
      have Hr : Hid (or2 a b = 0) := by show _ = _; simp [or2, ha.out (by omega), hb.out (by omega)]
      go_wp2
      go_ret
      exact ⟨ret_int Hr.out.symm, rfl⟩

/-- maps in their order -/
def cmpM (f g : M) : Int := or2 (cmpI f.p g.p) (cmpL (imgs f 5) (imgs g 5))
theorem rd_six {w : World} {g : Nat} {f : M} {B : Nat} (h : Six w g f) (hg : g < B) : RdI w B (some ⟨g, 1, none⟩) (imgs f 5) := by
  refine ⟨by simp [cI], fun _ => ⟨g, 1, rfl, hg, fun j u hu => ?_⟩⟩
  have hj : j < (imgs f 5).length := by
    rcases Nat.lt_or_ge j (imgs f 5).length with h | h
    · exact h
    · rw [List.getElem?_eq_none (by rw [cI_length]; exact h)] at hu; cases hu
  rw [imgs_length] at hj
  match j, hj with
  | 0, _ => exact h.2.1.trans hu
  | 1, _ => exact h.2.2.1.trans hu
  | 2, _ => exact h.2.2.2.1.trans hu
  | 3, _ => exact h.2.2.2.2.1.trans hu
  | 4, _ => exact h.2.2.2.2.2.trans hu

theorem compareI_b (x y : Int) (w : World) : Calls Tryz.prog 217 #[I x, I y] w fun e w' => e = .returned (I (cmpI x y)) ∧ Below w.heap.size w w' :=
  (compareI_any x y w).mono fun _ _ h => ⟨h.1, h.2 ▸ Below.refl _ _⟩

theorem compareL_b (f g : M) (b d : Nat) (w : World) (hx : Six w b f) (hy : Six w d g) :
    Calls Tryz.prog 136 #[.slice (some ⟨b, 1, none⟩) 5 5, .slice (some ⟨d, 1, none⟩) 5 5] w fun e w' => e = .returned (I (cmpL (imgs f 5) (imgs g 5))) ∧ Below w.heap.size w w' :=
  (compareL_any _ _ 5 5 5 5 (imgs f 5) (imgs g 5) w (rd_six hx hx.lt) (rd_six hy hy.lt) (imgs_length _ _) (imgs_length _ _) (by omega) (by omega)).mono fun _ _ h => ⟨h.1, h.2 ▸ Below.refl _ _⟩

theorem compare_any (f g : M) (w : World) :
    Calls Tryz.prog 198 #[.agg (mc f), .agg (mc g)] w fun e w' => e = .returned (I (cmpM f g)) ∧ Below w.heap.size w w' := by
  have sl0 := slc0 w.heap.size
  have sl1 := slc0 (w.heap.size + 1)
  go_enter Tryz.func198, Tryz.ntmps198
  go_wp2_with fail
  refine wp_region_boxG (fun q => .slice (some ⟨q, 0, none⟩) 2 2) [] rfl (by kernel_rfl) (by kernel_rfl) (by kernel_rfl) (fun w' => Six w' w.heap.size f ∧ Six w' (w.heap.size + 1) g ∧ Below w.heap.size w w') _
    (fun q => [.pointer (some ⟨w.heap.size, 0, none⟩), I f.p, .pointer (some ⟨w.heap.size + 1, 0, none⟩), I g.p, I (cmpI f.p g.p), .pointer (some ⟨w.heap.size, 1, none⟩), .slice (some ⟨w.heap.size, 1, none⟩) 5 5, .pointer (some ⟨w.heap.size + 1, 1, none⟩), .slice (some ⟨w.heap.size + 1, 1, none⟩) 5 5, I (cmpL (imgs f 5) (imgs g 5)), .slice (some ⟨q, 0, none⟩) 2 2, I (cmpM f g), I (cmpM f g)])
    (by intro q; simp only [putAll, List.setIfInBounds_toArray, List.set_cons_succ, List.set_cons_zero]; rfl) ?hS 10 11 15 _ _ rfl rfl 3 #[I (cmpI f.p g.p), I (cmpL (imgs f 5) (imgs g 5))] #[I (cmpI f.p g.p), I (cmpL (imgs f 5) (imgs g 5))] (by kernel_rfl) (by kernel_rfl) (by decide) (fun _ _ => rfl) ?hop ?hal ?hst ?hQ
  case hS => exact ⟨Six.alloc (Blk.six (Blk.new w _ _)) _, Blk.six (Blk.new' _ _ _ (by simp)), by (repeat (first | with_reducible assumption | with_reducible exact Below.refl _ _ | with_reducible refine Below.setCell ?_ (by first | omega | (simp <;> omega)) _ | with_reducible refine Below.alloc ?_ (by first | omega | (simp <;> omega)) _ | with_reducible refine Below.drew ?_ | with_reducible refine Below.drewN ?_ _))⟩
  case hop =>
    intro q
    refine ⟨.inr ?_, .inr ?_, .inr ?_, .inr ?_, .inr ?_, .inr ?_, .inr ?_, .inr ?_, .inr ?_, .inr ?_, .inl rfl, .inl rfl, .inr ?_, trivial⟩
    · (with_reducible refine Fix.of ?_ ?_; rfl; intro w' hS; have s0 := hS.1; have s1 := hS.2.1; unfold Oper.wp; go_simp; first | done | exact Below.refl _ _ | exact ⟨hS, Below.refl _ _⟩ | exact ⟨hS.2.2, Below.refl _ _⟩ | exact ⟨hS.1, hS.2.1, Below.refl _ _⟩ | exact ⟨⟨hS.1, hS.2.1⟩, Below.refl _ _⟩ | exact ⟨hS.1, hS.2.1, hS.2.2, Below.refl _ _⟩)
    · (with_reducible refine Fix.of ?_ ?_; rfl; intro w' hS; have s0 := hS.1; have s1 := hS.2.1; unfold Oper.wp; go_simp; first | done | exact Below.refl _ _ | exact ⟨hS, Below.refl _ _⟩ | exact ⟨hS.2.2, Below.refl _ _⟩ | exact ⟨hS.1, hS.2.1, Below.refl _ _⟩ | exact ⟨⟨hS.1, hS.2.1⟩, Below.refl _ _⟩ | exact ⟨hS.1, hS.2.1, hS.2.2, Below.refl _ _⟩)
    · (with_reducible refine Fix.of ?_ ?_; rfl; intro w' hS; have s0 := hS.1; have s1 := hS.2.1; unfold Oper.wp; go_simp; first | done | exact Below.refl _ _ | exact ⟨hS, Below.refl _ _⟩ | exact ⟨hS.2.2, Below.refl _ _⟩ | exact ⟨hS.1, hS.2.1, Below.refl _ _⟩ | exact ⟨⟨hS.1, hS.2.1⟩, Below.refl _ _⟩ | exact ⟨hS.1, hS.2.1, hS.2.2, Below.refl _ _⟩)
    · (with_reducible refine Fix.of ?_ ?_; rfl; intro w' hS; have s0 := hS.1; have s1 := hS.2.1; unfold Oper.wp; go_simp; first | done | exact Below.refl _ _ | exact ⟨hS, Below.refl _ _⟩ | exact ⟨hS.2.2, Below.refl _ _⟩ | exact ⟨hS.1, hS.2.1, Below.refl _ _⟩ | exact ⟨⟨hS.1, hS.2.1⟩, Below.refl _ _⟩ | exact ⟨hS.1, hS.2.1, hS.2.2, Below.refl _ _⟩)
    · (with_reducible refine Fix.of ?_ ?_; rfl; intro w' hS; have s3 := Lib.hid hS; unfold Oper.wp; clear hS; go_simp; refine (compareI_b f.p g.p _).mono ?_; rintro e w1 ⟨rfl, hb⟩; exact ⟨rfl, ⟨s3.out.1.below hb s3.out.1.lt, s3.out.2.1.below hb s3.out.2.1.lt, s3.out.2.2.trans (hb.mono s3.out.2.2.size)⟩, hb⟩)
    · (with_reducible refine Fix.of ?_ ?_; rfl; intro w' hS; have s0 := hS.1; have s1 := hS.2.1; unfold Oper.wp; go_simp; first | done | exact Below.refl _ _ | exact ⟨hS, Below.refl _ _⟩ | exact ⟨hS.2.2, Below.refl _ _⟩ | exact ⟨hS.1, hS.2.1, Below.refl _ _⟩ | exact ⟨⟨hS.1, hS.2.1⟩, Below.refl _ _⟩ | exact ⟨hS.1, hS.2.1, hS.2.2, Below.refl _ _⟩)
    · (with_reducible refine Fix.of ?_ ?_; rfl; intro w' hS; have s0 := hS.1; have s1 := hS.2.1; unfold Oper.wp; go_simp; first | done | exact Below.refl _ _ | exact ⟨hS, Below.refl _ _⟩ | exact ⟨hS.2.2, Below.refl _ _⟩ | exact ⟨hS.1, hS.2.1, Below.refl _ _⟩ | exact ⟨⟨hS.1, hS.2.1⟩, Below.refl _ _⟩ | exact ⟨hS.1, hS.2.1, hS.2.2, Below.refl _ _⟩)
    · (with_reducible refine Fix.of ?_ ?_; rfl; intro w' hS; have s0 := hS.1; have s1 := hS.2.1; unfold Oper.wp; go_simp; first | done | exact Below.refl _ _ | exact ⟨hS, Below.refl _ _⟩ | exact ⟨hS.2.2, Below.refl _ _⟩ | exact ⟨hS.1, hS.2.1, Below.refl _ _⟩ | exact ⟨⟨hS.1, hS.2.1⟩, Below.refl _ _⟩ | exact ⟨hS.1, hS.2.1, hS.2.2, Below.refl _ _⟩)
    · (with_reducible refine Fix.of ?_ ?_; rfl; intro w' hS; have s0 := hS.1; have s1 := hS.2.1; unfold Oper.wp; go_simp; first | done | exact Below.refl _ _ | exact ⟨hS, Below.refl _ _⟩ | exact ⟨hS.2.2, Below.refl _ _⟩ | exact ⟨hS.1, hS.2.1, Below.refl _ _⟩ | exact ⟨⟨hS.1, hS.2.1⟩, Below.refl _ _⟩ | exact ⟨hS.1, hS.2.1, hS.2.2, Below.refl _ _⟩)
    · (with_reducible refine Fix.of ?_ ?_; rfl; intro w' hS; have s3 := Lib.hid hS; unfold Oper.wp; clear hS; go_simp; refine (compareL_b f g _ _ _ s3.out.1 s3.out.2.1).mono ?_; rintro e w1 ⟨rfl, hb⟩; exact ⟨rfl, ⟨s3.out.1.below hb s3.out.1.lt, s3.out.2.1.below hb s3.out.2.1.lt, s3.out.2.2.trans (hb.mono s3.out.2.2.size)⟩, hb⟩)
    · (with_reducible refine Fix.of ?_ ?_; rfl; intro w' hS; have s0 := hS.1; have s1 := hS.2.1; unfold Oper.wp; go_simp; first | done | exact Below.refl _ _ | exact ⟨hS, Below.refl _ _⟩ | exact ⟨hS.2.2, Below.refl _ _⟩ | exact ⟨hS.1, hS.2.1, Below.refl _ _⟩ | exact ⟨⟨hS.1, hS.2.1⟩, Below.refl _ _⟩ | exact ⟨hS.1, hS.2.1, hS.2.2, Below.refl _ _⟩)
  case hal =>
    intro q
    refine ⟨rfl, fun w' hS => ?_⟩
    have s3 := Lib.hid hS
    clear hS
    unfold Oper.wp
    go_simp
    exact ⟨s3.out.1.alloc _, s3.out.2.1.alloc _, s3.out.2.2.alloc s3.out.2.2.size _⟩
  case hst =>
    intro q
    refine ⟨rfl, fun w' hS hq hB => ?_⟩
    have s3 := Lib.hid hS
    clear hS
    unfold Oper.wp
    go_simp
    refine (or2_any q 2 _ _ _ (hB.cell 0) (hB.cell 1)).mono ?_
    rintro e w1 ⟨rfl, rfl⟩
    exact ⟨rfl, s3.out, hB, Below.refl _ _⟩
  case hQ =>
    intro q w' hS hq hB hbel
    have Hbel := Lib.hid hS.2.2
    clear hq hB hS hbel
    go_wp2
    go_ret
    exact ⟨rfl, Hbel.out⟩

end Go.Proofs.YtkbfocoaobiijaaGreat
