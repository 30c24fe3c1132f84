/- Contracts of a drawn map; no conditions beyond those that the theorems state. -/
import Derived.Test.YtkbfocoaobiijaaDR3
namespace Go.Proofs.Ytkbfocoaobiijaa
open Go.RowKit
set_option maxRecDepth 100000
set_option linter.unusedSimpArgs false
set_option linter.unusedVariables false

theorem OwI.lit {e : TypeId} {B : Nat} (w : World) (L : List Int) {n : Nat} (hn : L.length = n) (h1 : n ≤ 300) (hb : B ≤ w.heap.size) : OwI e (w.alloc (.cells (cI L).toArray e)) B (.slice (some ⟨w.heap.size, 0, none⟩) n n) L := by
  subst hn
  exact ⟨by rw [cI_length]; omega, .inr ⟨w.heap.size, L.length, (cI L).toArray, rfl, hb, Blk.new w _ _, Nat.le_refl _, by unfold maxLen; omega, by simp [cI_length], by simp [List.take_of_length_le, cI_length]⟩⟩
theorem OwI.rd4 {e : TypeId} {w : World} {B n c : Nat} {A : Option Addr} {zs : List Int} (h : OwI e w B (.slice A n c) zs) : RdI w w.heap.size A zs := by
  obtain ⟨A', c', e', hx⟩ := h.form
  injection e' with e1 e2 e3
  subst e1
  exact hx
/-- a map with the property P comes back; the source stays one -/
def RetMp (s : Nat) (A : Option Addr) (n c : Nat) (zs : List Int) (P : M → Prop) (w : World) (e : Ending) (w' : World) : Prop := ∃ m : M, e = .returned (.agg (mc m)) ∧ P m ∧ Src w' s A n c zs ∧ w.grownBy w' (some s)
/-- what stands while a map is drawn: the result's block, the map's block -/
structure DM (w0 : World) (s : Nat) (A : Option Addr) (n c : Nat) (zs : List Int) (k : Nat) (m : M) (w : World) : Prop where
  src : Src w s A n c zs
  res : Blk w w0.heap.size 26 (mc M0)
  own : Blk w (w0.heap.size + 1) 26 (mc m)
  pts : m.p = k
  gr : w0.grownBy w (some s)
  low : s < w0.heap.size
section
variable {w0 w w' : World} {s : Nat} {A : Option Addr} {n c : Nat} {zs : List Int} {k : Nat} {m : M}
theorem DM.next (h : DM w0 s A n c zs k m w) (hs : Src w' s A n c zs) (hg : w.grownBy w' (some s)) : DM w0 s A n c zs k m w' :=
  ⟨hs, h.res.grown hg (fun e => by have := h.low; injection e with e; omega), h.own.grown hg (fun e => by have := h.low; injection e with e; omega), h.pts, grown_trans h.gr hg, h.low⟩
theorem DM.set (h : DM w0 s A n c zs k m w) {j : Nat} (hj : j < 5) (v : Int) : DM w0 s A n c zs k (M.mk' m.p fun i => if i = j then v else m.at i) (w.setCell ⟨w0.heap.size + 1, 1 + j, none⟩ (I v)) :=
  ⟨h.src.cell_far (by have := h.low; show s < w0.heap.size + 1; omega) _, h.res.far (by show w0.heap.size ≠ w0.heap.size + 1; omega) _, (h.own.set_ (1 + j) (I v)).cast (by rw [← mk'_eta m]; exact mc_set m.p m.at v hj), h.pts,
    ⟨h.gr.os, h.gr.tape, h.gr.output, by simpa [World.setCell] using h.gr.size, fun q hq hne => (Below.heap_setCell _ _ _ q (by show q ≠ w0.heap.size + 1; omega)).trans (h.gr.block q hq hne)⟩, h.low⟩
theorem Src.st6 (h : Src w s A n c zs) {q : Nat} (hq : s < q) (m : M) : Src (st6 w q m) s A n c zs :=
  (((((h.cell_far (p := ⟨q, 0, none⟩) hq _).cell_far (p := ⟨q, 1, none⟩) hq _).cell_far (p := ⟨q, 2, none⟩) hq _).cell_far (p := ⟨q, 3, none⟩) hq _).cell_far (p := ⟨q, 4, none⟩) hq _).cell_far (p := ⟨q, 5, none⟩) hq _
theorem grown_far {w0 w : World} {row : Option Nat} (h : w0.grownBy w row) {p : Addr} (hp : w0.heap.size ≤ p.block) (v : Value) : w0.grownBy (w.setCell p v) row :=
  ⟨h.os, h.tape, h.output, by simpa [World.setCell] using h.size, fun q hq hne => (Below.heap_setCell _ _ _ q (by omega)).trans (h.block q hq hne)⟩
theorem grown_st6 {w0 w : World} {row : Option Nat} (h : w0.grownBy w row) {q : Nat} (hq : w0.heap.size ≤ q) (m : M) : w0.grownBy (st6 w q m) row :=
  grown_far (p := ⟨q, 5, none⟩) (grown_far (p := ⟨q, 4, none⟩) (grown_far (p := ⟨q, 3, none⟩) (grown_far (p := ⟨q, 2, none⟩) (grown_far (p := ⟨q, 1, none⟩) (grown_far (p := ⟨q, 0, none⟩) h hq _) hq _) hq _) hq _) hq _) hq _
theorem DM.st (h : DM w0 s A n c zs k m w) (m' : M) (hp : m'.p = k) : DM w0 s A n c zs k m' (st6 w (w0.heap.size + 1) m') :=
  ⟨h.src.st6 (by have := h.low; omega) m', (((((h.res.far (p := ⟨w0.heap.size + 1, 0, none⟩) (by simp) _).far (p := ⟨w0.heap.size + 1, 1, none⟩) (by simp) _).far (p := ⟨w0.heap.size + 1, 2, none⟩) (by simp) _).far (p := ⟨w0.heap.size + 1, 3, none⟩) (by simp) _).far (p := ⟨w0.heap.size + 1, 4, none⟩) (by simp) _).far (p := ⟨w0.heap.size + 1, 5, none⟩) (by simp) _, h.own.st6 m', hp, grown_st6 h.gr (by omega) m', h.low⟩
theorem DM.fin (h : DM w0 s A n c zs k m w) (m' : M) (hp : m'.p = k) : RetMp s A n c zs (fun m => m.p = k) w0 (.returned (.agg (mc m'))) (st6 w w0.heap.size m') :=
  ⟨m', rfl, hp, h.src.st6 h.low m', grown_st6 h.gr (Nat.le_refl _) m'⟩
end

set_option maxHeartbeats 4000000 in
theorem drawOf_any {s : Nat} {A : Option Addr} {n c : Nat} {zs : List Int} (k : Nat) (h1 : 1 ≤ k) (h5 : k ≤ 5) (w : World) (hS : Src w s A n c zs) :
    Calls Try.prog 78 #[.pointer (some ⟨s, 0, none⟩), I k] w (RetMp s A n c zs (fun m => m.p = k) w) := by
  have HS := Lib.hid hS
  have hsl := hS.lt
  clear hS
  go_enter Try.func78, Try.ntmps78
  go_wp2_with fail
  have D0 : DM w s A n c zs k ⟨k, 0, 0, 0, 0, 0⟩ ((w.alloc (.cells (mc M0) 26)).alloc (.cells (mc ⟨k, 0, 0, 0, 0, 0⟩) 26)) :=
    ⟨(HS.out.alloc _).alloc _, (Blk.new w _ _).alloc _, Blk.new' _ _ _ (by simp), rfl, grown_below (((Below.refl _ _).alloc (Nat.le_refl _) _).alloc (by simp) _) _, hsl⟩
  refine (next_any 6 _ D0.src).mono ?_
  rintro e w1 ⟨r, rfl, hr, _, hS1, hg1⟩
  have D1 := Lib.hid (D0.next hS1 hg1)
  have hr6 := hr (by decide)
  clear hr hS1 hg1 D0
  by_cases r0 : r = 0
  · subst r0
    go_wp2_with fail
    refine (order_any k h5 w1 D1.out.src).mono ?_
    rintro e w2 ⟨g, ci, L, rfl, ho, hl, hS2, hg2⟩
    have D2 := Lib.hid (D1.out.next hS2 hg2)
    have Ho := Lib.hid ho
    have Hl := Lib.hid hl
    clear ho hl hS2 hg2
    go_wp2_with fail
    refine (l01Made_any _ k ci L w2 (OwI.rd4 Ho.out) Hl.out h5).mono ?_
    rintro e w3 ⟨rfl, hb3⟩
    have D3 := Lib.hid (D2.out.next (D2.out.src.below hb3) (grown_below hb3 _))
    have Hp : Hid ((made L).p = k) := by show (made L).p = k; rw [made_p, Hl.out]
    obtain ⟨e0, e1, e2, e3, e4, e5⟩ := D3.out.res.six
    obtain ⟨z0, z1, z2, z3, z4, z5⟩ := D3.out.res.fr6
    generalize made L = m at *
    clear hb3
    go_wp2_with fail
    refine bodyPost_ret (v := .agg (mc m)) ?_ rfl (D3.out.fin m Hp.out)
    simp [results, Try.results78, go_sem, *]
  by_cases r1 : r = 1
  · subst r1
    go_wp2_with fail
    refine (l01Identity_any k w1 (by omega) (by omega)).mono ?_
    rintro e w2 ⟨rfl, hb2⟩
    have D2 := D1.out.next (D1.out.src.below hb2) (grown_below hb2 _)
    have D3 := D2.st (one k) rfl
    have DD := Lib.hid D3
    obtain ⟨e0, e1, e2, e3, e4, e5⟩ := D2.own.six
    obtain ⟨z0, z1, z2, z3, z4, z5⟩ := D2.own.fr6
    clear D2 D3 hb2
    have Hp : Hid ((one k).p = k) := by show (one k).p = k; rfl
    generalize one k = m at *
    go_wp2_with fail
    refine (next_any k _ DD.out.src).mono ?_
    rintro e w3 ⟨a, rfl, hr, _, hS3, hg3⟩
    obtain ⟨ha0, hak⟩ := hr (by omega)
    have D3 := Lib.hid (DD.out.next hS3 hg3)
    obtain ⟨j, hj⟩ : ∃ j : Nat, (j : Int) = a := ⟨a.toNat, by omega⟩
    subst hj
    have hj5 : j < 5 := by omega
    clear hr hS3 hg3 e0 e1 e2 e3 e4 e5 z0 z1 z2 z3 z4 z5 DD
    go_wp2_with fail
    go_loopw [7] (fun t wr => ∃ (i : Nat) (m : M), t = .int .i64 i ∧ i ≤ k ∧ DM w s A n c zs k m wr) (fun t _ => k - (intOf t).toNat)
    case atStart => exact ⟨0, m, rfl, Nat.zero_le _, D3.out⟩
    case round =>
      clear D3 Hp
      obtain ⟨i, m, rfl, hi, hD⟩ := hrel
      have D := Lib.hid hD
      clear hD
      by_cases hik : i < k
      · have hiz : (i : Int) < (k : Int) := by omega
        have hi5 : i < 5 := by omega
        go_wp2_with fail
        refine (next_any 2 _ D.out.src).mono ?_
        rintro e w4 ⟨b, rfl, hr, _, hS4, hg4⟩
        have D4 := Lib.hid (D.out.next hS4 hg4)
        clear hr hS4 hg4
        by_cases hb : b = 0
        · subst hb
          have c3 := D4.out.own.at_ hi5
          have z1 := D4.out.own.frozen (1 + i)
          go_wp2_with fail
          go_roundw
          case rel => exact ⟨i + 1, _, by go_num, Nat.succ_le_of_lt hik, D4.out.set hi5 j⟩
          case measure => simp [intOf]; omega
        · go_wp2_with fail
          go_roundw
          case rel => exact ⟨i + 1, _, by go_num, Nat.succ_le_of_lt hik, D4.out⟩
          case measure => simp [intOf]; omega
      · have hiz : ¬ ((i : Int) < (k : Int)) := by omega
        obtain ⟨d0, d1, d2, d3, d4, d5⟩ := D.out.own.six
        obtain ⟨y0, y1, y2, y3, y4, y5⟩ := D.out.own.fr6
        obtain ⟨e0, e1, e2, e3, e4, e5⟩ := D.out.res.six
        obtain ⟨z0, z1, z2, z3, z4, z5⟩ := D.out.res.fr6
        obtain rfl | rfl | rfl | rfl | rfl : j = 0 ∨ j = 1 ∨ j = 2 ∨ j = 3 ∨ j = 4 := by omega
        · have D5 := D.out.set hj5 (0 : Nat)
          go_wp2_with fail
          refine bodyPost_ret (v := .agg (mc (M.mk' m.p fun i => if i = 0 then ((0 : Nat) : Int) else m.at i))) ?_ rfl (D5.fin _ D.out.pts)
          simp [results, Try.results78, go_sem, *]
          exact ⟨rfl, rfl, rfl, rfl, rfl, rfl⟩
        · have D5 := D.out.set hj5 (1 : Nat)
          go_wp2_with fail
          refine bodyPost_ret (v := .agg (mc (M.mk' m.p fun i => if i = 1 then ((1 : Nat) : Int) else m.at i))) ?_ rfl (D5.fin _ D.out.pts)
          simp [results, Try.results78, go_sem, *]
          exact ⟨rfl, rfl, rfl, rfl, rfl, rfl⟩
        · have D5 := D.out.set hj5 (2 : Nat)
          go_wp2_with fail
          refine bodyPost_ret (v := .agg (mc (M.mk' m.p fun i => if i = 2 then ((2 : Nat) : Int) else m.at i))) ?_ rfl (D5.fin _ D.out.pts)
          simp [results, Try.results78, go_sem, *]
          exact ⟨rfl, rfl, rfl, rfl, rfl, rfl⟩
        · have D5 := D.out.set hj5 (3 : Nat)
          go_wp2_with fail
          refine bodyPost_ret (v := .agg (mc (M.mk' m.p fun i => if i = 3 then ((3 : Nat) : Int) else m.at i))) ?_ rfl (D5.fin _ D.out.pts)
          simp [results, Try.results78, go_sem, *]
          exact ⟨rfl, rfl, rfl, rfl, rfl, rfl⟩
        · have D5 := D.out.set hj5 (4 : Nat)
          go_wp2_with fail
          refine bodyPost_ret (v := .agg (mc (M.mk' m.p fun i => if i = 4 then ((4 : Nat) : Int) else m.at i))) ?_ rfl (D5.fin _ D.out.pts)
          simp [results, Try.results78, go_sem, *]
          exact ⟨rfl, rfl, rfl, rfl, rfl, rfl⟩
  by_cases r2 : r = 2
  · subst r2
    go_wp2_with fail
    refine (next_any k w1 D1.out.src).mono ?_
    rintro e w2 ⟨a, rfl, hr, _, hS2, hg2⟩
    have D2 := Lib.hid (D1.out.next hS2 hg2)
    clear hr hS2 hg2
    go_wp2_with fail
    refine (next_any k w2 D2.out.src).mono ?_
    rintro e w3 ⟨b, rfl, hr, _, hS3, hg3⟩
    have D3 := Lib.hid (D2.out.next hS3 hg3)
    clear hr hS3 hg3
    go_wp2_with fail
    go_loopw [10] (fun t wr => ∃ (i : Nat) (m : M), t = .int .i64 i ∧ i ≤ k ∧ DM w s A n c zs k m wr) (fun t _ => k - (intOf t).toNat)
    case atStart => exact ⟨0, _, rfl, Nat.zero_le _, D3.out⟩
    case round =>
      clear D3
      obtain ⟨i, m, rfl, hi, hD⟩ := hrel
      have D := Lib.hid hD
      clear hD
      by_cases hik : i < k
      · have hiz : (i : Int) < (k : Int) := by omega
        have hi5 : i < 5 := by omega
        have hsz : s < wr.heap.size := D.out.src.lt
        go_wp2_with fail
        have hb4 : Below wr.heap.size wr (wr.alloc (.cells (cI [a, b]).toArray 2)) := (Below.refl _ _).alloc (Nat.le_refl _) _
        have D4 := D.out.next (D.out.src.below hb4) (grown_below hb4 _)
        refine (pick_any wr.heap.size 2 2 [a, b] _ D4.src (OwI.lit wr [a, b] rfl (by decide) hsz) rfl (by decide) (by decide)).mono ?_
        rintro e w5 ⟨b, rfl, _, hS5, hg5⟩
        have D5 := Lib.hid (D4.next hS5 hg5)
        clear hS5 hg5 D4 hb4
        have c3 := D5.out.own.at_ hi5
        have z1 := D5.out.own.frozen (1 + i)
        go_wp2_with fail
        go_roundw
        case rel => exact ⟨i + 1, _, by go_num, Nat.succ_le_of_lt hik, D5.out.set hi5 b⟩
        case measure => simp [intOf]; omega
      · have hiz : ¬ ((i : Int) < (k : Int)) := by omega
        obtain ⟨d0, d1, d2, d3, d4, d5⟩ := D.out.own.six
        obtain ⟨e0, e1, e2, e3, e4, e5⟩ := D.out.res.six
        obtain ⟨z0, z1, z2, z3, z4, z5⟩ := D.out.res.fr6
        go_wp2_with fail
        refine bodyPost_ret (v := .agg (mc m)) ?_ rfl (D.out.fin m D.out.pts)
        simp [results, Try.results78, go_sem, *]
  obtain rfl | rfl | rfl : r = 3 ∨ r = 4 ∨ r = 5 := by omega
  all_goals
    go_wp2_with fail
    go_loopw [11] (fun t wr => ∃ (i : Nat) (m : M), t = .int .i64 i ∧ i ≤ k ∧ DM w s A n c zs k m wr) (fun t _ => k - (intOf t).toNat)
    case atStart => exact ⟨0, _, rfl, Nat.zero_le _, D1.out⟩
    case round =>
      clear D1
      obtain ⟨i, m, rfl, hi, hD⟩ := hrel
      have D := Lib.hid hD
      clear hD
      by_cases hik : i < k
      · have hiz : (i : Int) < (k : Int) := by omega
        have hi5 : i < 5 := by omega
        go_wp2_with fail
        refine (next_any k _ D.out.src).mono ?_
        rintro e w5 ⟨b, rfl, hr, _, hS5, hg5⟩
        have D5 := Lib.hid (D.out.next hS5 hg5)
        clear hr hS5 hg5
        have c3 := D5.out.own.at_ hi5
        have z1 := D5.out.own.frozen (1 + i)
        go_wp2_with fail
        go_roundw
        case rel => exact ⟨i + 1, _, by go_num, Nat.succ_le_of_lt hik, D5.out.set hi5 b⟩
        case measure => simp [intOf]; omega
      · have hiz : ¬ ((i : Int) < (k : Int)) := by omega
        obtain ⟨d0, d1, d2, d3, d4, d5⟩ := D.out.own.six
        obtain ⟨e0, e1, e2, e3, e4, e5⟩ := D.out.res.six
        obtain ⟨z0, z1, z2, z3, z4, z5⟩ := D.out.res.fr6
        go_wp2_with fail
        refine bodyPost_ret (v := .agg (mc m)) ?_ rfl (D.out.fin m D.out.pts)
        simp [results, Try.results78, go_sem, *]

theorem draw_any {s : Nat} {A : Option Addr} {n c : Nat} {zs : List Int} (w : World) (hS : Src w s A n c zs) :
    Calls Try.prog 54 #[.pointer (some ⟨s, 0, none⟩)] w (RetMp s A n c zs (fun m => ∃ k : Nat, 1 ≤ k ∧ k ≤ 5 ∧ m.p = k) w) := by
  have HS := Lib.hid hS
  have hsl := hS.lt
  clear hS
  go_enter Try.func54, Try.ntmps54
  go_wp2_with fail
  have hb0 : Below w.heap.size w (w.alloc (.cells (mc M0) 26)) := (Below.refl _ _).alloc (Nat.le_refl _) _
  have hb1 : Below w.heap.size w ((w.alloc (.cells (mc M0) 26)).alloc (.cells (cI [1, 2, 3, 3, 4, 4, 5, 5]).toArray 2)) := hb0.alloc (by simp) _
  have hbl : Blk ((w.alloc (.cells (mc M0) 26)).alloc (.cells (cI [1, 2, 3, 3, 4, 4, 5, 5]).toArray 2)) w.heap.size 26 (mc M0) := (Blk.new w _ _).alloc _
  have ho := OwI.lit (e := 2) (B := s + 1) (w.alloc (.cells (mc M0) 26)) [1, 2, 3, 3, 4, 4, 5, 5] (n := 8) rfl (by decide) (by simp; omega)
  rw [show (w.alloc (.cells (mc M0) 26)).heap.size = w.heap.size + 1 by simp] at ho
  refine (pick_any (w.heap.size + 1) 8 8 [1, 2, 3, 3, 4, 4, 5, 5] _ (HS.out.below hb1) ho rfl (by decide) (by decide)).mono ?_
  rintro e w2 ⟨r, rfl, hr, hS2, hg2⟩
  obtain ⟨k, rfl, hk1, hk5⟩ : ∃ k : Nat, r = k ∧ 1 ≤ k ∧ k ≤ 5 := by
    simp only [List.mem_cons, List.not_mem_nil, or_false] at hr
    exact ⟨r.toNat, by omega, by omega, by omega⟩
  have Hg := Lib.hid (grown_trans (grown_below hb1 _) hg2)
  have Hb2 := Lib.hid (hbl.grown hg2 (fun e => by injection e with e; omega))
  have HS2 := Lib.hid hS2
  clear hr hS2 hg2 hb0 hb1 hbl ho
  go_wp2_with fail
  refine (drawOf_any k hk1 hk5 w2 HS2.out).mono ?_
  rintro e w3 ⟨m, rfl, hp, hS3, hg3⟩
  have Hb3 := Hb2.out.grown hg3 (fun e => by injection e with e; omega)
  obtain ⟨e0, e1, e2, e3, e4, e5⟩ := Hb3.six
  obtain ⟨z0, z1, z2, z3, z4, z5⟩ := Hb3.fr6
  have HS3 := Lib.hid hS3
  have Hg3 := Lib.hid (grown_trans Hg.out hg3)
  have Hp := Lib.hid hp
  clear hS3 hg3 Hb3 hp
  go_wp2_with fail
  refine bodyPost_ret (v := .agg (mc m)) ?_ rfl ⟨m, rfl, ⟨k, hk1, hk5, Hp.out⟩, HS3.out.st6 hsl m, grown_st6 Hg3.out (Nat.le_refl _) m⟩
  simp [results, Try.results54, go_sem, *]
end Go.Proofs.Ytkbfocoaobiijaa
