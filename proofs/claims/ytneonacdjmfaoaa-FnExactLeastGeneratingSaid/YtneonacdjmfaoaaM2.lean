/- Contract of the reference's ascending lists of so many numbers; fewer than seven numbers. -/
import Derived.Test.YtneonacdjmfaoaaM1
import Derived.Test.YtneonacdjmfaoaaNC
namespace Go.Proofs.Ytneonacdjmfaoaa
open Go.RowKit
set_option maxRecDepth 100000
set_option linter.unusedSimpArgs false
set_option linter.unusedVariables false

theorem OwI.hA {e : TypeId} {w : World} {B : Nat} {A : Option Addr} {n c : Nat} {zs : List Int} (h : OwI e w B (.slice A n c) zs) : A = none → n = 0 ∧ c = 0 := by
  rintro rfl
  rcases h.2 with ⟨h1, _⟩ | ⟨g, cap, cur, h1, _⟩
  · injection h1 with _ h2 h3
    exact ⟨h2, h3⟩
  · injection h1 with h1 _ _
    cases h1

/-- the values vs are slices of the lists L, each a row of its own at B or above and beside block o -/
def RdP (w : World) (B : Nat) (o : Option Nat) (vs : List Value) (L : List (List Int)) : Prop :=
  vs.length = L.length ∧ ∀ j, j < L.length → OwI 2 w B (gv vs j) (L.getD j []) ∧ ∀ g, (gv vs j).ownBlock = some g → o ≠ some g
section
variable {w w' : World} {B : Nat} {o : Option Nat} {vs : List Value} {L : List (List Int)}
theorem RdP.below {m : Nat} (h : RdP w B o vs L) (hb : Below m w w') (hm : w.heap.size ≤ m) : RdP w' B o vs L :=
  ⟨h.1, fun j hj => ⟨((h.2 j hj).1).below hb hm, (h.2 j hj).2⟩⟩
theorem RdP.mono {B' : Nat} (h : RdP w B o vs L) (hB : B' ≤ B) : RdP w B' o vs L :=
  ⟨h.1, fun j hj => ⟨((h.2 j hj).1).mono hB, (h.2 j hj).2⟩⟩
theorem RdP.nil_ : RdP w B o [] [] := ⟨rfl, fun j hj => by simp at hj⟩
/-- one row is put behind -/
theorem RdP.push (h : RdP w B o vs L) {u : Value} {zs : List Int} (hu : OwI 2 w B u zs) (hou : ∀ g, u.ownBlock = some g → o ≠ some g) {g' : Nat} (hgr : w.grownBy w' o) (hg' : o = some g' ∨ g' = w.heap.size) :
    RdP w' B (some g') (vs ++ [u]) (L ++ [zs]) := by
  have key : ∀ {v : Value} {ys : List Int}, OwI 2 w B v ys → (∀ g, v.ownBlock = some g → o ≠ some g) → OwI 2 w' B v ys ∧ ∀ g, v.ownBlock = some g → some g' ≠ some g := fun {v ys} h1 h2 => by
    refine ⟨h1.grown hgr h2, fun g hg e => ?_⟩
    injection e with e
    subst e
    rcases hg' with e | e
    · exact h2 g' hg e
    · have := (h1.lt g' hg).2; omega
  refine ⟨by simp [h.1], fun j hj => ?_⟩
  rw [List.length_append, List.length_singleton] at hj
  by_cases e : j < L.length
  · obtain ⟨h1, h2⟩ := h.2 j e
    have hv := h.1
    rw [gv_app (by omega), List.getD_eq_getElem?_getD, List.getElem?_append_left e, ← List.getD_eq_getElem?_getD]
    exact key h1 h2
  · obtain rfl : j = L.length := by omega
    have hv := h.1
    rw [gv_last hv, List.getD_eq_getElem?_getD, List.getElem?_append_right (Nat.le_refl _), Nat.sub_self]
    exact key hu hou
end

theorem OwV.rdA' {e : TypeId} {w : World} {B n c : Nat} {A : Option Addr} {vs : List Value} (h : OwV e w B (.slice A n c) vs) : RdV w w.heap.size A vs := by
  obtain ⟨A', c', e, h⟩ := h.form
  injection e with e1
  subst e1
  exact h
theorem RdV.at0' {w : World} {B : Nat} {b off : Nat} {vs : List Value} (h : RdV w B (some ⟨b, off, none⟩) vs) {k : Nat} (hk : k < vs.length) : w.cell? ⟨b, off + k, none⟩ = some (gv vs k) := by
  obtain ⟨b', off', e, _, c⟩ := h.at_ hk
  injection e with e
  injection e with e1 e2 _
  subst e1 e2
  exact c
/-- the blocks from lo to hi stand as they stood -/
def Mid (lo hi : Nat) (w2 w : World) : Prop := ∀ b, lo ≤ b → b < hi → w.heap[b]? = w2.heap[b]?
theorem RdP.keep {w w' : World} {B hi : Nat} {o : Option Nat} {vs : List Value} {L : List (List Int)} (h : RdP w B o vs L) (hm : Mid B hi w w') (hh : w.heap.size ≤ hi) : RdP w' B o vs L :=
  ⟨h.1, fun j hj => ⟨(h.2 j hj).1.keep fun g hg => hm g ((h.2 j hj).1.lt g hg).1 (by have := ((h.2 j hj).1.lt g hg).2; omega), (h.2 j hj).2⟩⟩
def partsTo (n f c i : Nat) : List (List Int) := (List.range' f (i - f)).flatMap fun j => (parts n (j + 1) c).map fun l => (j : Int) :: l
theorem partsTo_len : ∀ n : Fin 7, ∀ f : Fin 8, ∀ c : Fin 7, ∀ i : Fin 8, (partsTo n.val f.val c.val i.val).length ≤ 64 := by decide +kernel
theorem parts_len : ∀ n : Fin 7, ∀ f : Fin 8, ∀ c : Fin 8, (parts n.val f.val c.val).length ≤ 64 := by decide +kernel
theorem parts_rows : ∀ n : Fin 7, ∀ f : Fin 8, ∀ c : Fin 8, ((parts n.val f.val c.val).all fun l => l.length == c.val) = true := by decide +kernel
theorem parts_row {n f c m : Nat} (hn : n < 7) (hf : f < 8) (hc : c < 8) (hm : m < (parts n f c).length) : ((parts n f c).getD m []).length = c := by
  have h := List.all_eq_true.1 (parts_rows ⟨n, hn⟩ ⟨f, hf⟩ ⟨c, hc⟩) ((parts n f c)[m]) (List.getElem_mem hm)
  rw [List.getD_eq_getElem?_getD, List.getElem?_eq_getElem hm]
  simpa using h
theorem take_map (L : List (List Int)) (x : Int) {m : Nat} (h : m < L.length) : (L.take (m + 1)).map (fun l => x :: l) = (L.take m).map (fun l => x :: l) ++ [x :: L.getD m []] := by
  rw [List.take_add_one, List.map_append, List.getElem?_eq_getElem h, List.getD_eq_getElem?_getD, List.getElem?_eq_getElem h]
  rfl
theorem OwI.one2 {e : TypeId} {B : Nat} (w : World) (x : Int) (hb : B ≤ w.heap.size) : OwI e (w.alloc (.cells #[I x] e)) B (.slice (some ⟨w.heap.size, 0, none⟩) 1 1) [x] :=
  ⟨rfl, .inr ⟨w.heap.size, 1, #[I x], rfl, hb, Blk.new w _ _, Nat.le_refl _, by simp [maxLen], rfl, rfl⟩⟩
theorem partsTo_start (n f c : Nat) : partsTo n f c f = [] := by simp [partsTo]
theorem partsTo_step {n f c i : Nat} (h : f ≤ i) : partsTo n f c (i + 1) = partsTo n f c i ++ (parts n (i + 1) c).map fun l => (i : Int) :: l := by
  unfold partsTo
  rw [show i + 1 - f = (i - f) + 1 by omega, List.range'_concat]
  simp [show f + (i - f) = i by omega]
theorem partsTo_all (n f c : Nat) : parts n f (c + 1) = partsTo n f c n := rfl
def RetP (L : List (List Int)) (w : World) (e : Ending) (w' : World) : Prop := ∃ v vs, e = .returned v ∧ OwV 24 w' w.heap.size v vs ∧ RdP w' w.heap.size v.ownBlock vs L ∧ Below w.heap.size w w'

set_option maxHeartbeats 1000000 in
theorem l02Parts_any (n : Nat) (hn : n < 7) : ∀ (c : Nat), c < 8 → ∀ (f : Nat), f ≤ n → ∀ (w : World), Calls Try.prog 34 #[I n, I f, I c] w (RetP (parts n f c) w) := by
  intro c
  induction c with
  | zero =>
    intro hc f hf w
    go_enter Try.func34, Try.ntmps34
    go_wp2_with fail
    go_ret
    have hs : (w.alloc (Obj.cells #[] 2)).heap.size = w.heap.size + 1 := by simp
    have h1 := OwV.one (e := 24) (u := .slice (some ⟨w.heap.size, 0, none⟩) 0 0) (w := w.alloc (Obj.cells #[] 2)) (B := w.heap.size) (by simp)
    rw [hs] at h1
    refine ⟨_, _, rfl, h1, ⟨rfl, fun j hj => ?_⟩, ((Below.refl _ _).alloc (Nat.le_refl _) _).alloc (by simp) _⟩
    have hj0 : j = 0 := by simp [parts] at hj; omega
    subst hj0
    refine ⟨(OwI.made (Nat.le_refl _)).alloc _, fun g hg e => ?_⟩
    have hg1 : w.heap.size = g := Option.some.inj hg
    have e1 : w.heap.size + 1 = g := Option.some.inj e
    omega
  | succ c ih =>
    intro hc f hf w
    have Ih := Lib.hid ih
    clear ih
    have hcz : ¬ ((c : Int) + 1 = 0) := by omega
    go_enter Try.func34, Try.ntmps34
    go_wp2_with fail
    go_loopw [7, 8] (fun v t wr => ∃ (i : Nat) (vs : List Value), t = .int .i64 i ∧ f ≤ i ∧ i ≤ n ∧ Below w.heap.size w wr ∧ OwV 24 wr w.heap.size v vs ∧ RdP wr w.heap.size v.ownBlock vs (partsTo n f c i)) (fun _ t _ => n - (intOf t).toNat)
    case atStart => exact ⟨f, [], rfl, by omega, hf, (Below.refl _ _).alloc (Nat.le_refl _) _, World.ownsRow_made w #[] 0 (Nat.le_refl _) (by simp [maxLen]) (by simp), by rw [partsTo_start]; exact RdP.nil_⟩
    case round =>
      obtain ⟨i, vs, rfl, hfi, hin, hb', ho, hr⟩ := hrel
      have hl := Lib.hid hr.1
      have hlb := partsTo_len ⟨n, hn⟩ ⟨f, by omega⟩ ⟨c, by omega⟩ ⟨i, by omega⟩
      simp only at hlb
      obtain ⟨Av, cv, hv, _⟩ := ho.form
      subst hv
      have Hb := Lib.hid hb'
      have Ho := Lib.hid ho
      have Hr := Lib.hid hr
      have hsz := hb'.size
      clear hb' ho hr
      by_cases hi : i < n
      · have hiz : (i : Int) < (n : Int) := by omega
        have hpl := parts_len ⟨n, hn⟩ ⟨i + 1, by omega⟩ ⟨c, by omega⟩
        simp only at hpl
        go_wp2_with fail
        rw [show (i : Int) + 1 = ((i + 1 : Nat) : Int) by omega]
        refine (Ih.out (by omega) (i + 1) (by omega) wr).mono ?_
        rintro e w2 ⟨u, us, rfl, hou, hru, hbu⟩
        have hul := hru.1
        obtain ⟨Au, cu, hv2, _⟩ := hou.form
        subst hv2
        obtain ⟨K, hK⟩ : ∃ K, us.length = K := ⟨_, rfl⟩
        rw [hK] at hul hou hru ⊢
        obtain ⟨B2, hB2⟩ : ∃ B2, B2 = wr.heap.size := ⟨_, rfl⟩
        rw [← hB2] at hou hru
        have Hou := Lib.hid hou
        have Hru := Lib.hid hru
        have HK := Lib.hid hK
        have HL := Lib.hid hul
        have hK64 : K ≤ 64 := by omega
        have Hb2 := Lib.hid (Hb.out.trans (hbu.mono hsz))
        have Ho2 := Lib.hid (Ho.out.below hbu (Nat.le_refl _))
        have Hr2 := Lib.hid (Hr.out.below hbu (Nat.le_refl _))
        have hz2 := hbu.size
        have Hlt := Lib.hid Ho.out.lt
        clear hou hru hbu hK hul Ho Hr hpl
        go_wp2_with fail
        go_loopw [7, 10] (fun v k wq => ∃ (m : Nat) (ws : List Value), k = .int .i64 m ∧ m ≤ K ∧ w2.heap.size ≤ wq.heap.size ∧ Mid B2 w2.heap.size w2 wq ∧ (∀ g, v.ownBlock = some g → g < B2 ∨ w2.heap.size ≤ g) ∧ Below w.heap.size w wq ∧ OwV 24 wq w.heap.size v ws ∧ RdP wq w.heap.size v.ownBlock ws (partsTo n f c i ++ ((parts n (i + 1) c).take m).map fun l => (i : Int) :: l)) (fun _ k _ => K - (intOf k).toNat)
        case atStart => exact ⟨0, vs, rfl, by omega, Nat.le_refl _, fun _ _ _ => rfl, fun g hg => .inl (by rw [hB2]; exact (Hlt.out g hg).2), Hb2.out, Ho2.out, by rw [List.take_zero, List.map_nil, List.append_nil]; exact Hr2.out⟩
        case round =>
          obtain ⟨m, ws, rfl, hm, hzq, hmid, hfar, hbw, hoq, hrq⟩ := hrel
          obtain ⟨Aw, cw, hvw, _⟩ := hoq.form
          obtain ⟨q, hq⟩ : ∃ q, ws.length = q := ⟨_, rfl⟩
          rw [hq] at hvw
          subst hvw
          have hq1 := hrq.1
          rw [hq, List.length_append, List.length_map, List.length_take] at hq1
          have hq128 : q ≤ 128 := by omega
          have Hq := Lib.hid hq
          have Hmid := Lib.hid hmid
          have Hfar := Lib.hid hfar
          have Hbw := Lib.hid hbw
          have Hoq := Lib.hid hoq
          have Hrq := Lib.hid hrq
          have hzw := hbw.size
          clear hq1 hq hmid hfar hbw hoq hrq
          by_cases hmK : m < K
          · have hmz : (m : Int) < (K : Int) := by omega
            have hmL : m < (parts n (i + 1) c).length := by have := HL.out; omega
            obtain ⟨hrow, _⟩ := ((Hru.out.keep Hmid.out (Nat.le_refl _)).2 m hmL)
            have Htk : Hid (_ = _) := take_map (parts n (i + 1) c) i hmL
            obtain ⟨row, hro⟩ : ∃ row, row = (parts n (i + 1) c).getD m [] := ⟨_, rfl⟩
            rw [← hro] at hrow Htk
            obtain ⟨Am, cm, hvm, _⟩ := hrow.form
            obtain ⟨lm, hlm⟩ : ∃ lm, row.length = lm := ⟨_, rfl⟩
            rw [hlm] at hvm
            rw [hvm] at hrow
            obtain ⟨bu, offu, rfl, hbb, _⟩ := RdV.at_ (OwV.rdA' Hou.out) (k := m) (by rw [HK.out]; exact hmK)
            have x1 := RdV.at0' (OwV.rdA' ((Hou.out.keep fun g hg => Hmid.out g (Hou.out.lt g hg).1 (Hou.out.lt g hg).2).alloc (.cells #[I i] 2))) (k := m) (by rw [HK.out]; exact hmK)
            rw [hvm] at x1
            have Hrw := Lib.hid hrow
            have Hlm := Lib.hid hlm
            have hlm2 : lm < 8 := by have := parts_row hn (show i + 1 < 8 by omega) (show c < 8 by omega) hmL; rw [← hro, hlm] at this; omega
            clear hrow hvm hlm hro
            go_wp2_with (at_builtin; first | (refine wpList_catI rfl (.tmp 36) (.tmp 40) rfl wr.heap.size (.slice (some ⟨wr.heap.size, 0, none⟩) 1 1) [(i : Int)] row rfl (OwI.one2 wr i (Nat.le_refl _)) Am lm cm rfl Hrw.out.hA (Hrw.out.alloc _).rdB Hlm.out (by simp; omega) (by simp) ?_; intro v5 w5 ho5 hgr5; obtain ⟨A5, c5, hv5, _⟩ := ho5.form; obtain ⟨q5, hq5⟩ : ∃ q5, ([(i : Int)] ++ row).length = q5 := ⟨_, rfl⟩; rw [hq5] at hv5; subst hv5; have H5 := Lib.hid ho5; have Hb5 := Lib.hid (((Below.refl wr.heap.size wr).alloc (Nat.le_refl _) (.cells #[I i] 2)).grown hgr5 (by simp) (fun k hk => by have hkk : wr.heap.size = k := Option.some.inj hk; omega)); have hs5 := hgr5.size; simp only [World.size_alloc] at hs5; clear ho5 hgr5 hq5) | (refine wpList_pushV rfl (.tmp 34) (.tmp 42) rfl w.heap.size (.slice Aw q cw) ws rfl ((Hoq.out.below Hb5.out (Nat.le_refl _)).alloc _) q Hq.out w5.heap.size 1 (.slice A5 q5 c5) rfl rfl ((Blk.new _ _ _).cell 0) (by omega) (by simp; omega) (w5.heap.size + 1) (by simp) ?_; intro g' cap w6 ho6 hgr6 hg6 hlt6; have Ho6 := Lib.hid ho6; have Hgr6 := Lib.hid hgr6; have Hg6 := Lib.hid hg6; clear ho6 hgr6 hg6))
            have Hb5a : Hid (Below wr.heap.size wr (w5.alloc (.cells #[.slice A5 q5 c5] 24))) := Hb5.out.alloc (by omega) _
            have hz6 := Hgr6.out.size
            simp only [World.size_alloc] at hz6
            have Hb6 := Lib.hid (((Hoq.out.below Hb5.out (Nat.le_refl _)).alloc (.cells #[.slice A5 q5 c5] 24)).bel (Hbw.out.trans (Hb5a.out.mono hzw)) Hgr6.out (Nat.le_refl _) (by simp; omega))
            have Hr6 : Hid (RdP w6 w.heap.size (some g') (ws ++ [.slice A5 q5 c5]) (partsTo n f c i ++ ((parts n (i + 1) c).take (m + 1)).map fun l => (i : Int) :: l)) := by
              show RdP _ _ _ _ _
              rw [Htk.out, ← List.append_assoc]
              refine RdP.push (Hrq.out.below Hb5a.out (Nat.le_refl _)) ((H5.out.alloc _).mono hzw) (fun g hg e => ?_) Hgr6.out (by rcases Hg6.out with h | h; exact .inl h; right; simp; omega)
              have h1 := (Hoq.out.lt g e).2
              have h2 := (H5.out.lt g hg).1
              omega
            have Hmid6 : Hid (Mid B2 w2.heap.size w2 w6) := fun b h1 h2 => by
              rw [← Hmid.out b h1 h2, ← Hb5a.out.block b (by omega)]
              refine Hgr6.out.block b (by simp; omega) (fun e => ?_)
              rcases Hfar.out b e.symm with h | h <;> omega
            have Hfar6 : Hid (∀ g, some g' = some g → g < B2 ∨ w2.heap.size ≤ g) := fun g e => by
              injection e with e
              subst e
              rcases Hg6.out with h | h
              · exact Hfar.out g' h
              · right; omega
            go_roundw
            case rel => exact ⟨m + 1, _, by go_num, by omega, by omega, Hmid6.out, Hfar6.out, Hb6.out, Ho6.out, Hr6.out⟩
            case measure => simp [intOf]; omega
          · obtain rfl : m = K := by omega
            have hmz : ¬ ((m : Int) < (m : Int)) := by omega
            have Hr6 : Hid (RdP wr w.heap.size (Value.slice Aw q cw).ownBlock ws (partsTo n f c (i + 1))) := by
              show RdP _ _ _ _ _
              have h := Hrq.out
              rw [HL.out, List.take_length] at h
              rw [partsTo_step hfi]
              exact h
            go_wp2_with fail
            go_roundw
            case rel => exact ⟨i + 1, by omega, by omega, by omega, Hbw.out, _, Hoq.out, Hr6.out⟩
            case measure => simp [intOf]; omega
      · obtain rfl : i = n := by omega
        have hiz : ¬ ((i : Int) < (i : Int)) := by omega
        go_wp2_with fail
        go_ret
        exact ⟨_, _, rfl, Ho.out, by rw [partsTo_all]; exact Hr.out, Hb.out⟩
end Go.Proofs.Ytneonacdjmfaoaa
