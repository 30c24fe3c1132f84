/- Contracts of the functions that keep the points of a map that are such; the maps are valid where the theorems say so. -/
import Derived.Test.YtkbfocoaobiijaaC3
import Derived.Test.YtkbfocoaobiijaaC4
import Derived.Test.YtkbfocoaobiijaaS1
import Derived.Lib.SliceRun
import Derived.IntWalk
namespace Go.Proofs.Ytkbfocoaobiijaa
open Go.RowKit
set_option maxRecDepth 100000

/-- the numbers below n -/
def ups (n : Nat) : List Int := (List.range n).map fun k : Nat => (k : Int)
theorem ups_length (n : Nat) : (ups n).length = n := by simp [ups]
theorem ups_succ (n : Nat) : ups (n + 1) = ups n ++ [(n : Int)] := by simp [ups, List.range_succ]
theorem gi_ups {n k : Nat} (h : k < n) : gi (ups n) k = k := by simp [gi, ups, List.getD, h]

theorem points_any (n : Nat) (w : World) (hn : n < 1073741824) :
    Calls Try.prog 75 #[.int .i64 n] w fun e w' => ∃ v, e = .returned v ∧ OwI 2 w' w.heap.size v (ups n) ∧ Below w.heap.size w w' := by
  go_enter Try.func75, Try.ntmps75
  go_wp2
  go_loopw [3, 6] (fun v i wr => ∃ k : Nat, k ≤ n ∧ i = .int .i64 k ∧ OwI 2 wr w.heap.size v (ups k) ∧ Below w.heap.size w wr) (fun _ i _ => n - (intOf i).toNat)
  case atStart => exact ⟨0, by omega, rfl, OwI.nil_, by (repeat (first | with_reducible assumption | with_reducible exact Below.refl _ _ | with_reducible refine Below.setCell ?_ (by first | omega | (simp <;> omega)) _ | with_reducible refine Below.alloc ?_ (by first | omega | (simp <;> omega)) _ | with_reducible refine Below.drew ?_ | with_reducible refine Below.drewN ?_ _))⟩
  case round =>
    obtain ⟨k, hk, rfl, ho, hbel⟩ := hrel
    obtain ⟨A, c, hv, _⟩ := ho.form
    rw [ups_length] at hv
    subst hv
    have hsz := hbel.size
    by_cases hlt : k < n
    · go_wp2_with (at_builtin; refine wpList_pushI rfl (.tmp 9) (.tmp 11) rfl w.heap.size (.slice A k c) (ups k) rfl (ho.alloc _) wr.heap.size 1 k rfl ((Blk.new _ _ _).cell 0) (by rw [ups_length]; omega) (by simp; omega) (wr.heap.size + 1) (by simp) ?_; intro g' cap w4 ho' hgr hg' hlt')
      go_roundw
      case rel => exact ⟨k + 1, by omega, by go_num, by rw [ups_succ]; simpa [ups_length] using ho', (ho.alloc _).bel (hbel.alloc hsz _) hgr (by omega) (by simp; omega)⟩
      case measure => simp [intOf]; omega
    · obtain rfl : k = n := by omega
      go_wp2
      go_ret
      exact ⟨_, rfl, ho, hbel⟩

/-- where the first number stands that is such, or -1 -/
def idxF (p : Int → Bool) : List Int → Int
  | [] => -1
  | x :: xs => if p x then 0 else (if idxF p xs = -1 then -1 else idxF p xs + 1)
theorem idxF_found {p : Int → Bool} : ∀ {xs : List Int} {k : Nat}, k < xs.length → p (gi xs k) = true → (∀ j, j < k → p (gi xs j) = false) → idxF p xs = k
  | [], k, hk, _, _ => by simp at hk
  | x :: xs, 0, _, h, _ => by simp [gi] at h; simp [idxF, h]
  | x :: xs, k + 1, hk, h, hn => by
    have h0 : p x = false := by have := hn 0 (by omega); simpa [gi] using this
    have ih := idxF_found (p := p) (xs := xs) (k := k) (by simpa using hk) (by simpa [gi] using h) (fun j hj => by have := hn (j + 1) (by omega); simpa [gi] using this)
    unfold idxF
    rw [h0, ih]
    simp <;> omega
theorem idxF_none {p : Int → Bool} : ∀ {xs : List Int}, (∀ j, j < xs.length → p (gi xs j) = false) → idxF p xs = -1
  | [], _ => rfl
  | x :: xs, h => by
    have h0 : p x = false := by have := h 0 (by simp); simpa [gi] using this
    have ih := idxF_none (p := p) (xs := xs) fun j hj => by have := h (j + 1) (by simpa using hj); simpa [gi] using this
    unfold idxF
    rw [h0, ih]
    simp

/-- the function value that where hands on: it answers whether a number of zs is dropped, in every world that agrees with w0 below B -/
def Drops (q B : Nat) (w0 : World) (zs : List Int) (p : Int → Bool) : Prop :=
  ∀ w' z, Below B w0 w' → z ∈ zs → Calls Try.prog 76 #[I z, .pointer (some ⟨q, 0, none⟩)] w' fun e w'' => e = .returned (.bool (p z)) ∧ Below w'.heap.size w' w''
abbrev dropper (q : Nat) : Value := .func (.func 76) #[] #[.pointer (some ⟨q, 0, none⟩)]

theorem gi_mem {zs : List Int} {k : Nat} (h : k < zs.length) : gi zs k ∈ zs := by rw [gi_eq h]; exact List.getElem_mem h

theorem indexF_any (A : Option Addr) (n c q B : Nat) (zs : List Int) (p : Int → Bool) (w0 w : World) (hx : RdI w w.heap.size A zs) (hn : zs.length = n) (hb : n < 1073741824) (hd : Drops q B w0 zs p) (hw : Below B w0 w) (hBw : B ≤ w.heap.size) :
    Calls Try.prog 81 #[.slice A n c, dropper q] w fun e w' => e = .returned (I (idxF p zs)) ∧ Below w.heap.size w w' := by
  have Hn := Lib.hid hn
  have Hx := Lib.hid hx
  clear hn hx
  go_enter Try.func81, Try.ntmps81
  go_wp2
  go_loopw [8] (fun i wr => ∃ k : Nat, k ≤ n ∧ i = .int .i64 k ∧ Hid (∀ j, j < k → p (gi zs j) = false) ∧ Below w.heap.size w wr) (fun i _ => n - (intOf i).toNat)
  case atStart => exact ⟨0, by omega, rfl, fun j hj => absurd hj (by omega), by (repeat (first | with_reducible assumption | with_reducible exact Below.refl _ _ | with_reducible refine Below.setCell ?_ (by first | omega | (simp <;> omega)) _ | with_reducible refine Below.alloc ?_ (by first | omega | (simp <;> omega)) _ | with_reducible refine Below.drew ?_ | with_reducible refine Below.drewN ?_ _))⟩
  case round =>
    obtain ⟨k, hk, rfl, hg, hbel⟩ := hrel
    by_cases hlt : k < n
    · obtain ⟨b, off, rfl, hbb, c1⟩ := RdI.at_ (Hx.out.below hbel) (k := k) (by rw [Hn.out]; exact hlt)
      have hcall := hd wr (gi zs k) (hw.trans (hbel.mono hBw)) (gi_mem (by rw [Hn.out]; exact hlt))
      have Hc := Lib.hid hcall
      clear hcall
      go_wp2_with fail
      refine Hc.out.mono ?_
      rintro e w2 ⟨rfl, hb2⟩
      replace hbel := hbel.trans (hb2.mono hbel.size)
      clear hb2 c1
      cases hp : p (gi zs k)
      · have Hr : Hid (∀ j, j < k + 1 → p (gi zs j) = false) := by
          intro j hj
          by_cases e : j = k
          · subst e; exact hp
          · exact hg.out j (by omega)
        go_wp2
        go_roundw
        case rel => exact ⟨k + 1, by omega, by go_num, Hr.out, hbel⟩
        case measure => simp [intOf]; omega
      · have Hr : Hid (idxF p zs = k) := idxF_found (by rw [Hn.out]; exact hlt) hp hg.out
        go_wp2
        go_ret
        exact ⟨ret_int Hr.out.symm, hbel⟩
    · have Hr : Hid (idxF p zs = -1) := idxF_none fun j hj => hg.out j (by have := Hn.out; omega)
      go_wp2
      go_ret
      exact ⟨ret_int Hr.out.symm, hbel⟩

theorem OwI.spotD {e : TypeId} {w : World} {B g n c : Nat} {zs : List Int} (h : OwI e w B (.slice (some ⟨g, 0, none⟩) n c) zs) {k : Nat} (hk : k < zs.length) :
    w.cell? ⟨g, k, none⟩ = some (I (gi zs k)) ∧ w.frozen? ⟨g, k, none⟩ = false ∧ g < w.heap.size ∧ B ≤ g ∧ ∀ z, OwI e (w.setCell ⟨g, k, none⟩ (I z)) B (.slice (some ⟨g, 0, none⟩) n c) (zs.set k z) := by
  obtain ⟨g', c', hv, h1, h2, h3, h4, h5⟩ := h.spot hk
  injection hv with hv e2 e3
  injection hv with hv
  injection hv with hv _ _
  subst hv
  exact ⟨h3, h4, h2, h1, h5⟩
theorem OwI.setCells {e : TypeId} {B g n c : Nat} : ∀ (L : List Int) (o : Nat) (w : World) (rs : List Int), OwI e w B (.slice (some ⟨g, 0, none⟩) n c) rs → o + L.length ≤ rs.length →
    ∃ rs', rs'.length = rs.length ∧ rs'.take o = rs.take o ∧ OwI e (w.setCells g o (L.map I)) B (.slice (some ⟨g, 0, none⟩) n c) rs'
  | [], o, w, rs, h, _ => ⟨rs, rfl, rfl, h⟩
  | z :: L, o, w, rs, h, hl => by
    simp only [List.length_cons] at hl
    have h1 := (h.spotD (k := o) (by omega)).2.2.2.2 z
    obtain ⟨rs', e1, e2, e3⟩ := OwI.setCells L (o + 1) _ _ h1 (by simp; omega)
    refine ⟨rs', by simpa using e1, ?_, e3⟩
    have := congrArg (List.take o) e2
    rw [List.take_take, List.take_take, Nat.min_eq_left (by omega), List.take_set_of_le (by omega)] at this
    exact this
theorem OwI.cut {e : TypeId} {w : World} {B g n c : Nat} {zs : List Int} (h : OwI e w B (.slice (some ⟨g, 0, none⟩) n c) zs) {i : Nat} (hi : i ≤ zs.length) : OwI e w B (.slice (some ⟨g, 0, none⟩) i c) (zs.take i) := by
  have hlen : (zs.take i).length = i := by simp; omega
  rcases h.2 with ⟨hv, _⟩ | ⟨g', cap, cur, hv, h1, h2, h3, h4, h5, h6⟩
  · cases hv
  · injection hv with hv e2 e3
    injection hv with hv
    injection hv with hv _ _
    subst hv e3
    refine ⟨by simp [cI], .inr ⟨g, c, cur, by rw [hlen], h1, h2, by omega, h4, h5, ?_⟩⟩
    rw [hlen, Nat.mul_one]
    have := congrArg (List.take i) h6
    rw [List.take_take, Nat.mul_one, Nat.min_eq_left (by omega)] at this
    rw [this]
    simp [cI, List.map_take]
theorem OwI.cap {e : TypeId} {w : World} {B g n c : Nat} {zs : List Int} (h : OwI e w B (.slice (some ⟨g, 0, none⟩) n c) zs) : zs.length = n ∧ n ≤ c := by
  rcases h.2 with ⟨hv, _⟩ | ⟨g', cap, cur, hv, h1, h2, h3, h4, h5, h6⟩
  · cases hv
  · injection hv with hv e2 e3
    subst e2 e3
    exact ⟨rfl, h3⟩

theorem OwI.rd {e : TypeId} {w : World} {B g n c : Nat} {zs : List Int} (h : OwI e w B (.slice (some ⟨g, 0, none⟩) n c) zs) : RdI w w.heap.size (some ⟨g, 0, none⟩) zs := by
  obtain ⟨A, c', hv, hr⟩ := h.form
  injection hv with hA _ _
  rw [hA]
  exact hr

/-- what is kept -/
def keepF (p : Int → Bool) (zs : List Int) : List Int := zs.filter fun z => !p z
theorem keepF_snoc {p : Int → Bool} {zs : List Int} {k : Nat} (hk : k < zs.length) : keepF p (zs.take (k + 1)) = keepF p (zs.take k) ++ (if p (gi zs k) then [] else [gi zs k]) := by
  rw [List.take_add_one, keepF, keepF, List.filter_append]
  congr 1
  rw [List.getElem?_eq_getElem hk, gi_eq hk]
  cases h : p zs[k] <;> simp [h]
theorem idxF_keep {p : Int → Bool} : ∀ {zs : List Int}, idxF p zs = -1 → keepF p zs = zs
  | [], _ => rfl
  | x :: xs, h => by
    unfold idxF at h
    cases hp : p x
    · rw [hp] at h
      simp only [Bool.false_eq_true, if_false] at h
      by_cases h1 : idxF p xs = -1
      · have := idxF_keep h1
        unfold keepF at this ⊢
        rw [List.filter_cons]
        simp [hp, this]
      · rw [if_neg h1] at h
        have : ∀ xs : List Int, -1 ≤ idxF p xs := by
          intro xs
          induction xs with
          | nil => simp [idxF]
          | cons y ys ih => unfold idxF; split <;> (try split) <;> omega
        have := this xs
        omega
    · rw [hp] at h; simp at h
theorem idxF_cases (p : Int → Bool) : ∀ zs : List Int, idxF p zs = -1 ∨ ∃ k : Nat, idxF p zs = k ∧ k < zs.length ∧ p (gi zs k) = true ∧ keepF p (zs.take k) = zs.take k
  | [] => .inl rfl
  | x :: xs => by
    cases hp : p x
    · rcases idxF_cases p xs with h | ⟨k, h1, h2, h3, h4⟩
      · left; unfold idxF; rw [hp, h]; rfl
      · right
        refine ⟨k + 1, ?_, by simpa using h2, by simpa [gi] using h3, ?_⟩
        · unfold idxF; rw [hp, h1]; simp <;> omega
        · unfold keepF at h4 ⊢
          rw [List.take_succ_cons, List.filter_cons]
          simp [hp, h4]
    · right
      refine ⟨0, ?_, by simp, by simpa [gi] using hp, rfl⟩
      unfold idxF; rw [hp]; rfl

theorem zeroI : ∀ w, (zeroValue 2).run Try.prog w = .ok (I 0) w := fun w => by kernel_rfl

/-- clear of a row's end -/
theorem clearI {w : World} {B g n c a : Nat} {rs : List Int} (h : OwI 2 w B (.slice (some ⟨g, 0, none⟩) n c) rs) (hn : rs.length = n) (ha : a < n) (ty : TypeId) (c' : Nat) :
    ∃ w', (Builtin.clear_ #[34] ty #[.slice (some ⟨g, a, none⟩) (n - a) c']).run Try.prog w = .ok (.tuple #[]) w' ∧ OwI 2 w' B (.slice (some ⟨g, 0, none⟩) a c) (rs.take a) ∧ Below B w w' := by
  have hB := (h.spotD (k := a) (by omega)).2.2.2.1
  refine ⟨w.setCells g a (List.replicate (n - a) (I 0)), Lib.run_clear_slice w 34 2 ty (I 0) Try.underlying34 zeroI rfl rfl g a (n - a) c' (by omega) ?_ ?_, ?_, ?_⟩
  · intro j hj; rw [(h.spotD (k := a + j) (by omega)).1]; rfl
  · intro j hj; exact (h.spotD (k := a + j) (by omega)).2.1
  · obtain ⟨rs', e1, e2, e3⟩ := h.setCells (List.replicate (n - a) 0) a w rs (by simp; omega)
    rw [List.map_replicate] at e3
    rw [← e2]
    exact e3.cut (by omega)
  · have key : ∀ (L : List Value) (o : Nat) (w' : World), Below B w w' → Below B w (w'.setCells g o L) := by
      intro L
      induction L with
      | nil => intro o w' h; exact h
      | cons v L ih => intro o w' h; exact ih (o + 1) _ (h.setCell hB _)
    exact key _ _ _ (Below.refl _ _)

theorem deleteF_any (g n c q B : Nat) (zs : List Int) (p : Int → Bool) (w0 w : World) (ho : OwI 2 w B (.slice (some ⟨g, 0, none⟩) n c) zs) (hb : n < 1073741824) (hd : Drops q B w0 zs p) (hw : Below B w0 w) (hBw : B ≤ w.heap.size) :
    Calls Try.prog 74 #[.slice (some ⟨g, 0, none⟩) n c, dropper q] w fun e w' => ∃ v, e = .returned v ∧ OwI 2 w' B v (keepF p zs) ∧ Below B w w' := by
  have hcap := ho.cap
  have Hn := Lib.hid hcap.1
  have hnc := hcap.2
  have Hr := Lib.hid ho.rd
  clear hcap
  go_enter Try.func74, Try.ntmps74
  go_wp2_with fail
  refine (indexF_any _ n c q B zs p w0 _ Hr.out Hn.out hb hd hw hBw).mono ?_
  rintro e w1 ⟨rfl, hb1⟩
  have ho1 := ho.below hb1 (Nat.le_refl _)
  have hbel := hb1.mono hBw
  clear hb1 ho Hr
  rcases idxF_cases p zs with hi | ⟨k, hi, hk, hpk, hkeep⟩
  · have Hk : Hid (keepF p zs = zs) := idxF_keep hi
    rw [hi]
    clear hi
    go_wp2
    go_ret
    exact ⟨_, rfl, by rw [Hk.out]; exact ho1, hbel⟩
  · rw [hi]
    have hkn : k < n := by have := Hn.out; omega
    have hk0 : ¬ ((k : Int) = -1) := by omega
    have hkb : ((k : Int) == -1) = false := beq_false_of_ne hk0
    have Hrs : Hid (zs.take k = keepF p (zs.take (k + 1))) := by
      show _ = _
      rw [keepF_snoc hk, hpk, hkeep]; simp
    clear hi hpk hkeep hk
    go_wp2_with fail
    go_loopw [5, 6] (fun i j wr => ∃ (a b : Nat) (rs : List Int), i = .int .i64 a ∧ j = .int .i64 b ∧ a < b ∧ b ≤ n ∧ Hid (rs.length = n ∧ rs.take a = keepF p (zs.take b) ∧ ∀ t, b ≤ t → t < n → gi rs t = gi zs t) ∧ OwI 2 wr B (.slice (some ⟨g, 0, none⟩) n c) rs ∧ Below B w wr) (fun _ j _ => n - (intOf j).toNat)
    case atStart => exact ⟨k, k + 1, zs, rfl, by go_num, by omega, by omega, ⟨Hn.out, Hrs.out, fun _ _ _ => rfl⟩, ho1, hbel⟩
    case round =>
      obtain ⟨a, b, rs, rfl, rfl, hab, hbn, Hx, hor, hbel⟩ := hrel
      clear ho1
      by_cases hlt : b < n
      · obtain ⟨c1, _, hgl, hBg, _⟩ := hor.spotD (k := b) (by rw [Hx.out.1]; exact hlt)
        have e1 := Hx.out.2.2 b (Nat.le_refl _) hlt
        rw [e1] at c1
        have hcall := hd wr (gi zs b) (hw.trans hbel) (gi_mem (by rw [Hn.out]; exact hlt))
        have Hc := Lib.hid hcall
        have hsz : B ≤ wr.heap.size := by omega
        clear hcall e1
        go_wp2_with fail
        refine Hc.out.mono ?_
        rintro e w2 ⟨rfl, hb2⟩
        replace hor := hor.below hb2 (Nat.le_refl _)
        replace hbel := hbel.trans (hb2.mono hsz)
        clear hb2 c1
        have hks := keepF_snoc (p := p) (zs := zs) (k := b) (by rw [Hn.out]; exact hlt)
        cases hp : p (gi zs b)
        · rw [hp] at hks
          obtain ⟨c2, z2, hgl2, _, hst⟩ := hor.spotD (k := a) (by rw [Hx.out.1]; omega)
          have Hst := Lib.hid (hst (gi zs b))
          have Hy : Hid ((rs.set a (gi zs b)).length = n ∧ (rs.set a (gi zs b)).take (a + 1) = keepF p (zs.take (b + 1)) ∧ ∀ t, b + 1 ≤ t → t < n → gi (rs.set a (gi zs b)) t = gi zs t) := by
            refine ⟨by simp [Hx.out.1], ?_, fun t h1 h2 => ?_⟩
            · rw [hks, ← Hx.out.2.1, List.take_add_one, List.take_set_of_le (Nat.le_refl _)]
              simp [show a < rs.length by rw [Hx.out.1]; omega]
            · rw [← Hx.out.2.2 t (by omega) h2]
              unfold gi
              simp [List.getD, show ¬ a = t by omega]
          clear hst hks
          go_wp2
          go_roundw
          case rel => exact ⟨a + 1, b + 1, _, by go_num, by go_num, by omega, by omega, Hy, Hst.out, hbel.setCell (by omega) _⟩
          case measure => simp [intOf]; omega
        · rw [hp] at hks
          have Hy : Hid (rs.length = n ∧ rs.take a = keepF p (zs.take (b + 1)) ∧ ∀ t, b + 1 ≤ t → t < n → gi rs t = gi zs t) := by
            refine ⟨Hx.out.1, ?_, fun t h1 h2 => Hx.out.2.2 t (by omega) h2⟩
            rw [hks, Hx.out.2.1]; simp
          clear hks
          go_wp2
          go_roundw
          case rel => exact ⟨a, b + 1, rs, rfl, by go_num, by omega, by omega, Hy, hor, hbel⟩
          case measure => simp [intOf]; omega
      · obtain rfl : b = n := by omega
        have Hres : Hid (keepF p zs = rs.take a) := by
          show _ = _
          rw [Hx.out.2.1, ← Hn.out, List.take_length]
        obtain ⟨w9, hcl, ho9, hb9⟩ := clearI hor Hx.out.1 hab 0 (c - a)
        replace hbel := hbel.trans hb9
        clear hb9 hor
        go_wp2
        go_ret
        exact ⟨_, rfl, by rw [Hres.out]; exact ho9, hbel⟩

end Go.Proofs.Ytkbfocoaobiijaa
