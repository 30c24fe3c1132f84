/- Contract of the reference's search for what an element reaches; conditions as the theorem states. -/
import Derived.Test.YtneonacdjmfaoaaH2
import Derived.Test.YtneonacdjmfaoaaC14
namespace Go.Proofs.Ytneonacdjmfaoaa
open Go.RowKit
set_option maxRecDepth 100000
set_option linter.unusedSimpArgs false
set_option linter.unusedVariables false

abbrev TN : TypeId := 3
theorem OwI.one_ {e : TypeId} {B : Nat} (w : World) (x : Int) (hb : B ≤ w.heap.size) : OwI e (w.alloc (.cells #[I x] e)) B (.slice (some ⟨w.heap.size, 0, none⟩) 1 1) [x] :=
  ⟨rfl, .inr ⟨w.heap.size, 1, #[I x], rfl, hb, Blk.new w _ _, Nat.le_refl _, by simp [maxLen], rfl, rfl⟩⟩

theorem addQ_old {L : List Nat} {x : Nat} (h : x ∈ L) : addQ L x = L := if_pos h

/-- the state of the search -/
structure RS (w0 w : World) (N gM gq kq cq : Nat) (L : List Nat) : Prop where
  bel : Below w0.heap.size w0 w
  q : OwI TN w w0.heap.size (.slice (some ⟨gq, 0, none⟩) kq cq) (qI L)
  kq : L.length = kq
  m : Bls w gM N fun y => decide (y ∈ L)
  ne : gq ≠ gM
  gm : w0.heap.size ≤ gM
section
variable {w0 w w' : World} {N gM gq kq cq : Nat} {L : List Nat}
theorem RS.below (h : RS w0 w N gM gq kq cq L) (hb : Below w.heap.size w w') : RS w0 w' N gM gq kq cq L :=
  ⟨h.bel.trans (hb.mono h.bel.size), h.q.below hb (Nat.le_refl _), h.kq, h.m.below hb h.m.lt, h.ne, h.gm⟩
theorem RS.q4 (h : RS w0 w N gM gq kq cq L) (x : Nat) (o : Obj) : OwI TN ((w.setCell ⟨gM, x, none⟩ (.bool true)).alloc o) w0.heap.size (.slice (some ⟨gq, 0, none⟩) kq cq) (qI L) :=
  (h.q.keep (fun g hg => by injection hg with hg; exact Below.heap_setCell _ _ _ g (by rw [← hg]; exact h.ne))).alloc o
theorem RS.push (h : RS w0 w N gM gq kq cq L) {x : Nat} (hx : x < N) (hnx : x ∉ L) {w4 w5 w6 : World} {o : Obj} (h4 : w4 = w.setCell ⟨gM, x, none⟩ (.bool true)) (h5 : w5 = w4.alloc o) {g' cap : Nat} (ho : OwI TN w6 w0.heap.size (.slice (some ⟨g', 0, none⟩) (kq + 1) cap) (qI L ++ [(x : Int)]))
    (hgr : w5.grownBy w6 (some gq)) (hg : some gq = some g' ∨ g' = w5.heap.size) : RS w0 w6 N gM g' (kq + 1) cap (addQ L x) := by
  have ha : addQ L x = L ++ [x] := by unfold addQ; rw [if_neg hnx]
  have hm4 : Bls w4 gM N fun y => decide (y ∈ L) || decide (y = x) := by rw [h4]; exact h.m.set hx
  have hm5 := hm4.grown (w' := w5) (row := none) (by rw [h5]; exact World.grownBy_alloc w4 o none) (by simp)
  have hm6 := hm5.grown hgr (by simpa using Ne.symm h.ne)
  have hs4 : w4.heap.size = w.heap.size := by rw [h4]; simp [World.setCell]
  have hs5 : w5.heap.size = w.heap.size + 1 := by rw [h5]; simp [hs4]
  have hgq := (h.q.lt gq rfl).1
  have hb4 : Below w0.heap.size w0 w4 := by rw [h4]; exact h.bel.setCell (p := ⟨gM, x, none⟩) h.gm _
  have hb5 : Below w0.heap.size w0 w5 := by rw [h5]; exact hb4.alloc (by have := h.bel.size; omega) o
  have hml := h.m.lt
  refine ⟨hb5.grown hgr (by have := h.bel.size; omega) (fun k hk => by injection hk with hk; omega), by rw [ha, qI_snoc]; exact ho, by rw [ha, List.length_append, h.kq]; rfl, hm6.congr fun y _ => ?_, ?_, h.gm⟩
  · rw [ha, Bool.eq_iff_iff]; simp
  · rcases hg with e | e
    · injection e with e; rw [← e]; exact h.ne
    · omega
theorem RS.box (h : RS w0 w N gM gq kq cq L) {x : Nat} {w4 w5 w6 : World} {o : Obj} (h4 : w4 = w.setCell ⟨gM, x, none⟩ (.bool true)) (h5 : w5 = w4.alloc o) {g' hb : Nat} {f : M} (hB : Blk w hb 39 (mc f)) (hbM : hb ≠ gM) (hbq : hb ≠ gq)
    (hgr : w5.grownBy w6 (some gq)) (hg : some gq = some g' ∨ g' = w5.heap.size) : Blk w6 hb 39 (mc f) ∧ hb ≠ g' := by
  have hl := hB.lt
  have hs4 : w4.heap.size = w.heap.size := by rw [h4]; simp [World.setCell]
  have hs5 : w5.heap.size = w.heap.size + 1 := by rw [h5]; simp [hs4]
  have b4 : Blk w4 hb 39 (mc f) := by rw [h4]; exact hB.far (p := ⟨gM, x, none⟩) hbM _
  have b5 : Blk w5 hb 39 (mc f) := by rw [h5]; exact b4.alloc o
  refine ⟨b5.grown hgr (by simpa using hbq), ?_⟩
  rcases hg with e | e
  · injection e with e; rw [← e]; exact hbq
  · omega
end
def RetB (N : Nat) (Q : Nat → Bool) (w : World) (e : Ending) (w' : World) : Prop := ∃ g, e = .returned (.slice (some ⟨g, 0, none⟩) N N) ∧ w.heap.size ≤ g ∧ Bls w' g N Q ∧ Below w.heap.size w w'

set_option maxHeartbeats 4000000 in
theorem l03Reach_any (A : Option Addr) (N c : Nat) (E : List M) (Ag : Option Addr) (k cg : Nat) (ms : List M) (i0 : Nat) (l r : Bool) {n : Int} (w : World) (hx : RdM w w.heap.size A E) (hn : E.length = N) (hy : RdM w w.heap.size Ag ms) (hm2 : ms.length = k) (hN : N ≤ 300) (hk : k ≤ 6)
    (hM : Mnd n E) (hE : ∀ x, x ∈ E ↔ Mon ms n x) (hG : Pts n ms) (hi0 : i0 < N) :
    Calls Try.prog 94 #[.slice A N c, .slice Ag k cg, I i0, .bool l, .bool r] w (RetB N (fun y => decide (Rel E l r (gm E i0) (gm E y))) w) := by
  obtain ⟨b, off, rfl, hbb, _⟩ := RdM.at_ hx (k := i0) (by rw [hn]; exact hi0)
  obtain ⟨i, hi, hz0, hz1, hz2⟩ := info_parts infoB
  have Hx := Lib.hid hx
  have Hy := Lib.hid hy
  have Hn := Lib.hid hn
  have Hk := Lib.hid hm2
  have HM := Lib.hid hM
  have HE := Lib.hid hE
  have HG := Lib.hid hG
  have HGE : Hid (∀ i, i < ms.length → gm ms i ∈ E) := fun i hi => (hE _).2 (Mon.gen hG (gm_mem hi))
  have hi0z : (i0 : Int) < (N : Int) := by omega
  clear hx hy hn hm2 hM hE hG
  go_enter Try.func94, Try.ntmps94
  go_wp2_with (at_make; refine wpList_make_full _ rfl _ _ _ rfl w.heap.size TB i (.bool false) 1 Try.underlying84 hi hz0 hz1 .i64 .i64 _ _ N rfl rfl rfl rfl (by rw [hz2]; omega) (by unfold maxLen; omega) (Nat.le_refl _) ?_; intro w1 hown hgr; have hB := madeB hown; have e0 := hB.cell hi0; have z0 := hB.frozen i0; have l0 := hB.lt)
  have hb1 : Below w.heap.size w w1 := (Below.refl _ _).grown hgr (Nat.le_refl _) (fun k hk => by cases hk)
  obtain ⟨w2, hw2⟩ : ∃ w2, w2 = (w1.setCell ⟨w.heap.size, i0, none⟩ (.bool true)).alloc (.cells #[I i0] TN) := ⟨_, rfl⟩
  have HS0 : Hid (RS w w2 N w.heap.size w1.heap.size 1 1 [i0]) := by
    show RS _ _ _ _ _ _ _ _
    have hs4 : (w1.setCell ⟨w.heap.size, i0, none⟩ (.bool true)).heap.size = w1.heap.size := by simp [World.setCell]
    have hq := OwI.one_ (e := TN) (B := w.heap.size) (w1.setCell ⟨w.heap.size, i0, none⟩ (.bool true)) i0 (by rw [hs4]; exact hb1.size)
    rw [hs4] at hq
    have ho := (hB.set hi0).grown (World.grownBy_alloc _ (.cells #[I i0] TN) none) (by simp)
    rw [hw2]
    exact ⟨(hb1.setCell (p := ⟨w.heap.size, i0, none⟩) (Nat.le_refl _) _).alloc (by rw [hs4]; exact hb1.size) _, hq, rfl, ho.congr fun y _ => by simp, by omega, Nat.le_refl _⟩
  have HR0 : Hid (Rch E ms l r i0 [i0] 0 0) := Rch.start HM.out (by rw [Hn.out]; exact hi0)
  clear hown hgr hB e0 z0 hb1 hi hz0 hz1 hz2
  rw [← hw2]
  obtain ⟨h1s, hh1⟩ : ∃ h1s, h1s = w1.heap.size := ⟨_, rfl⟩
  rw [← hh1] at HS0 ⊢
  clear hw2 hh1 l0
  go_loopw [13, 12] (fun t v wr => ∃ (a : Nat) (L : List Nat) (gq kq cq : Nat), t = .int .i64 a ∧ v = .slice (some ⟨gq, 0, none⟩) kq cq ∧ a ≤ kq ∧ RS w wr N w.heap.size gq kq cq L ∧ Rch E ms l r i0 L a 0) (fun t _ _ => N + 1 - (intOf t).toNat)
  case atStart => exact ⟨0, [i0], h1s, 1, 1, rfl, rfl, by omega, HS0.out, HR0.out⟩
  case round =>
    clear HS0 HR0
    obtain ⟨a, L, gq, kq, cq, rfl, rfl, ha, hS, hR⟩ := hrel
    have hkq := hS.kq
    have hlen := hR.len
    rw [Hn.out] at hlen
    by_cases hak : a < kq
    · have haz : (a : Int) < (kq : Int) := by omega
      obtain ⟨x, hxa⟩ : ∃ x, L[a]? = some x := ⟨_, List.getElem?_eq_getElem (by omega)⟩
      have hxE := (hR.ok x (List.mem_of_getElem? hxa)).1
      rw [Hn.out] at hxE
      have hxz : (x : Int) < (N : Int) := by omega
      obtain ⟨e0, _, _, _, _⟩ := OwI.spotAt hS.q (k := a) (by rw [qI_len]; omega)
      rw [qI_get hxa] at e0
      obtain ⟨f, hf⟩ : ∃ f, f = gm E x := ⟨_, rfl⟩
      have hfE : f ∈ E := by rw [hf]; exact gm_mem (by rw [Hn.out]; exact hxE)
      have hfv := (HM.out.ok f hfE).1
      have H6 := (RdM.six (Rd.more (Rd.below Hx.out hS.bel) hS.bel.size) (k := x) (by rw [Hn.out]; exact hxE)).1
      rw [← hf] at H6
      obtain ⟨x0, x1, x2, x3, x4, x5⟩ := H6
      obtain ⟨wb, hwb⟩ : ∃ wb, wb = wr.alloc (.cells (mc f) 39) := ⟨_, rfl⟩
      obtain ⟨hb, hhb⟩ : ∃ hb, hb = wr.heap.size := ⟨_, rfl⟩
      have hbr : Below wr.heap.size wr wb := by rw [hwb]; exact (Below.refl _ _).alloc (Nat.le_refl _) _
      have hml := hS.m.lt
      have hql := (hS.q.lt gq rfl).2
      have HS : Hid (RS w wb N w.heap.size gq kq cq L) := hS.below hbr
      have HB : Hid (Blk wb hb 39 (mc f)) := by show Blk _ _ _ _; rw [hwb, hhb]; exact Blk.new _ _ _
      have hbM : hb ≠ w.heap.size := by omega
      have hbq : hb ≠ gq := by omega
      have HR := Lib.hid hR
      have Hxa := Lib.hid hxa
      have Hf := Lib.hid hf
      have HfE := Lib.hid hfE
      have Hwb := Lib.hid hwb
      have Hhb := Lib.hid hhb
      have haN : a < N := by omega
      clear hS hR hxa hf hfE hwb hhb hbr hml hql hlen
      go_wp2_with fail
      rw [← Hwb.out, ← Hhb.out]
      clear x0 x1 x2 x3 x4 x5 e0 Hwb Hhb
      go_loopw [15, 12] (fun t v wr => ∃ (q : Nat) (L : List Nat) (gq kq cq : Nat), t = .int .i64 q ∧ v = .slice (some ⟨gq, 0, none⟩) kq cq ∧ q ≤ k ∧ a < kq ∧ RS w wr N w.heap.size gq kq cq L ∧ Rch E ms l r i0 L a q ∧ L[a]? = some x ∧ Blk wr hb 39 (mc f) ∧ hb ≠ gq) (fun t _ _ => k - (intOf t).toNat)
      case atStart => exact ⟨0, L, gq, kq, cq, rfl, rfl, by omega, hak, HS.out, HR.out, Hxa.out, HB.out, hbq⟩
      case round =>
        clear HS HR Hxa HB hbq hkq ha haz
        clear hak
        obtain ⟨q, L, gq, kq, cq, rfl, rfl, hqk, hak, hS, hR, hxa, hB, hbq⟩ := hrel
        have HS := Lib.hid hS
        have HR := Lib.hid hR
        have Hxa := Lib.hid hxa
        have HB := Lib.hid hB
        clear hS hR hxa hB
        by_cases hqk2 : q < k
        · have hqz : (q : Int) < (k : Int) := by omega
          obtain ⟨b2, off2, rfl, hbb2, _⟩ := RdM.at_ Hy.out (k := q) (by rw [Hk.out]; exact hqk2)
          obtain ⟨g, hg⟩ : ∃ g, g = gm ms q := ⟨_, rfl⟩
          have hgE : g ∈ E := by rw [hg]; exact HGE.out q (by rw [Hk.out]; exact hqk2)
          have hgv := (HM.out.ok g hgE).1
          have Hg := Lib.hid hg
          have HgE := Lib.hid hgE
          clear hg hgE
          cases l
          · cases r
            · go_wp2_with fail
              go_roundw
              case rel => exact ⟨q + 1, L, gq, kq, cq, by go_num, rfl, by omega, by omega, HS.out, HR.out.next Hxa.out (fun e => by cases e) (fun e => by cases e), Hxa.out, HB.out, hbq⟩
              case measure => simp [intOf]; omega
            · obtain ⟨zr, hzr⟩ : ∃ z, z = mul f g := ⟨_, rfl⟩
              obtain ⟨kr, hkr⟩ : ∃ y, y = ix E zr := ⟨_, rfl⟩
              have hor := HR.out.right HM.out HGE.out (by rw [Hn.out]; exact hi0) Hxa.out (by rw [Hk.out]; exact hqk2) rfl
              rw [← Hf.out, ← Hg.out, ← hzr, ← hkr] at hor
              have hlr : kr < N := by rw [← Hn.out]; exact hor.1
              have hlrz : (kr : Int) < (N : Int) := by omega
              have hzmr : zr ∈ E := by rw [hzr]; exact HM.out.mulE _ HfE.out _ HgE.out
              have hzrv := (HM.out.ok zr hzmr).1
              have Hkr : Hid (plOf E zr - 1 = (kr : Int)) := by show _ = _; rw [plOf_in hzmr, ← hkr]; omega
              have Hzr : Hid (mul f g = zr) := hzr.symm
              have HKr : Hid (ix E (mul (gm E x) (gm ms q)) = kr) := by show _ = _; rw [← Hf.out, ← Hg.out, ← hzr, ← hkr]
              have halr : a < (L).length := by rw [HS.out.kq]; omega
              have HRr := Lib.hid (HR.out.add halr hor)
              have Hxar : Hid ((addQ L kr)[a]? = some x) := by show _ = _; rw [addQ_get halr]; exact Hxa.out
              have hmr : kr ∈ (addQ L kr) := addQ_mem _ _
              have hMr := Lib.hid hmr
              have HXr : Hid (∀ w', Below wr.heap.size wr w' → RdM w' w'.heap.size (some ⟨b, off, none⟩) E) := fun w' hb' => by have h2 := HS.out.bel.trans (hb'.mono HS.out.bel.size); exact Rd.more (Rd.below Hx.out h2) h2.size
              have HCr : Hid (∀ w', Below wr.heap.size wr w' → SixAt w' b2 (off2 + q * 6) g) := fun w' hb' => by have h2 := HS.out.bel.trans (hb'.mono HS.out.bel.size); rw [Hg.out]; exact (RdM.six (Rd.more (Rd.below Hy.out h2) h2.size) (k := q) (by rw [Hk.out]; exact hqk2)).1
              clear hor hzr hkr hzmr halr hmr
              go_wp2_with fail
              refine wp_region_same [] rfl (by kernel_rfl) (by kernel_rfl) (by kernel_rfl) (fun w' => Below wr.heap.size wr w') _
                [.slice (some ⟨b, off, none⟩) N c, .agg (mc f), .slice (some ⟨b2, off2, none⟩) k cg, I q, .pointer (some ⟨b2, off2 + q * 6, none⟩), .agg (mc g), .agg (mc zr), I kr, I kr]
                (by simp only [putAll, List.setIfInBounds_toArray, List.set_cons_succ, List.set_cons_zero]; rfl) (Below.refl _ _).drew ?hop ?hQ
              case hop =>
                refine FixBL.toL (fun w' w'' hS hb => hS.trans (hb.mono hS.size)) _ _ ?_
                refine ⟨.inr ?_, .inr ?_, .inr ?_, .inr ?_, .inr ?_, .inr ?_, .inr ?_, .inr ?_, .inr ?_, trivial⟩
                · (with_reducible refine FixB.of ?_ ?_; rfl; intro w' hS; have s0 := HCr.out _ hS; have s1 := (HB.out.below hS HB.out.lt).six; clear hS; unfold Oper.wp; go_simp; first | done | exact Below.refl _ _)
                · (with_reducible refine FixB.of ?_ ?_; rfl; intro w' hS; have s0 := HCr.out _ hS; have s1 := (HB.out.below hS HB.out.lt).six; clear hS; unfold Oper.wp; go_simp; first | done | exact Below.refl _ _)
                · (with_reducible refine FixB.of ?_ ?_; rfl; intro w' hS; have s0 := HCr.out _ hS; have s1 := (HB.out.below hS HB.out.lt).six; clear hS; unfold Oper.wp; go_simp; first | done | exact Below.refl _ _)
                · (with_reducible refine FixB.of ?_ ?_; rfl; intro w' hS; have s0 := HCr.out _ hS; have s1 := (HB.out.below hS HB.out.lt).six; clear hS; unfold Oper.wp; go_simp; first | done | exact Below.refl _ _)
                · (with_reducible refine FixB.of ?_ ?_; rfl; intro w' hS; have s0 := HCr.out _ hS; have s1 := (HB.out.below hS HB.out.lt).six; clear hS; unfold Oper.wp; go_simp; first | done | exact Below.refl _ _)
                · (with_reducible refine FixB.of ?_ ?_; rfl; intro w' hS; have s0 := HCr.out _ hS; have s1 := (HB.out.below hS HB.out.lt).six; clear hS; unfold Oper.wp; go_simp; first | done | exact Below.refl _ _)
                · (with_reducible refine FixB.of ?_ ?_; rfl; intro w' hS; have s3 := Lib.hid hS; unfold Oper.wp; clear hS; go_simp; refine ((Hzr.out ▸ l01Times_any f g _ hfv)).mono ?_; rintro e w1 ⟨rfl, hb⟩; exact ⟨rfl, hb⟩)
                · (with_reducible refine FixB.of ?_ ?_; rfl; intro w' hS; have s3 := Lib.hid hS; unfold Oper.wp; clear hS; go_simp; refine ((Hkr.out ▸ l03Index_any (some ⟨b, off, none⟩) N c E zr _ (HXr.out _ s3.out) Hn.out (by omega) HM.out.asc (fun g hg => (HM.out.ok g hg).1) hzrv)).mono ?_; rintro e w1 ⟨rfl, hb⟩; exact ⟨rfl, hb⟩)
                · (with_reducible refine FixB.of ?_ ?_; rfl; intro w' hS; have s0 := HCr.out _ hS; have s1 := (HB.out.below hS HB.out.lt).six; clear hS; unfold Oper.wp; go_simp; first | done | exact Below.refl _ _)
              case hQ =>
              intro wc hS _
              have Hwr := Lib.hid hS
              clear hS
              have HSr := Lib.hid (HS.out.below Hwr.out)
              have HBr := Lib.hid (HB.out.below Hwr.out HB.out.lt)
              obtain ⟨wr, hwr⟩ : ∃ y, y = wc := ⟨_, rfl⟩
              rw [← hwr] at HSr HBr ⊢
              have er := HSr.out.m.cell hlr
              clear Hwr HXr HCr hwr
              by_cases hinr : kr ∈ L
              · rw [decide_eq_true hinr] at er
                have HSr2 : Hid (RS w wr N w.heap.size gq kq cq (addQ L kr)) := by show RS _ _ _ _ _ _ _ _; rw [addQ_old hinr]; exact HSr.out
                go_wp2_with fail
                go_roundw
                case rel => exact ⟨q + 1, (addQ L kr), gq, kq, cq, by go_num, rfl, by omega, by omega, HSr2.out, HRr.out.next Hxar.out (fun e => by cases e) (fun _ => by rw [HKr.out]; exact hMr.out), Hxar.out, HBr.out, hbq⟩
                case measure => simp [intOf]; omega
              · rw [decide_eq_false hinr] at er
                have fr := HSr.out.m.frozen kr
                have lMr := HSr.out.m.lt
                have hlnr : kq ≤ 300 := by have h1 := HR.out.len; have h2 := HSr.out.kq; have h3 := Hn.out; omega
                go_wp2_with (at_builtin; refine wpList_pushN rfl (.tmp 83) (.tmp 85) rfl w.heap.size (.slice (some ⟨gq, 0, none⟩) kq cq) (qI L) rfl (HSr.out.q4 kr _) kq (by rw [qI_len]; exact HSr.out.kq) wr.heap.size 1 kr rfl ((Blk.new' _ _ _ (by simp [World.setCell])).cell 0) (by omega) (by have := HSr.out.bel.size; simp [World.setCell]; omega) (wr.heap.size + 1) (by simp [World.setCell]) ?_; intro gr' capr wr6 hor hgrr hgr hltr; have HSr2 := Lib.hid (HSr.out.push hlr hinr rfl rfl hor hgrr (hgr.imp id (fun e => by rw [e]; simp [World.setCell]))); have hbxr := HSr.out.box rfl rfl HBr.out hbM hbq hgrr (hgr.imp id (fun e => by rw [e]; simp [World.setCell])); have HBr6 := Lib.hid hbxr.1; have hbqr := hbxr.2; clear hor hgrr hgr hltr hbxr)
                go_wp2_with fail
                go_roundw
                case rel => exact ⟨q + 1, (addQ L kr), gr', (kq + 1), capr, by go_num, rfl, by omega, by omega, HSr2.out, HRr.out.next Hxar.out (fun e => by cases e) (fun _ => by rw [HKr.out]; exact hMr.out), Hxar.out, HBr6.out, hbqr⟩
                case measure => simp [intOf]; omega
          · cases r
            · obtain ⟨zl, hzl⟩ : ∃ z, z = mul g f := ⟨_, rfl⟩
              obtain ⟨kl, hkl⟩ : ∃ y, y = ix E zl := ⟨_, rfl⟩
              have hol := HR.out.left HM.out HGE.out (by rw [Hn.out]; exact hi0) Hxa.out (by rw [Hk.out]; exact hqk2) rfl
              rw [← Hf.out, ← Hg.out, ← hzl, ← hkl] at hol
              have hll : kl < N := by rw [← Hn.out]; exact hol.1
              have hllz : (kl : Int) < (N : Int) := by omega
              have hzml : zl ∈ E := by rw [hzl]; exact HM.out.mulE _ HgE.out _ HfE.out
              have hzlv := (HM.out.ok zl hzml).1
              have Hkl : Hid (plOf E zl - 1 = (kl : Int)) := by show _ = _; rw [plOf_in hzml, ← hkl]; omega
              have Hzl : Hid (mul g f = zl) := hzl.symm
              have HKl : Hid (ix E (mul (gm ms q) (gm E x)) = kl) := by show _ = _; rw [← Hf.out, ← Hg.out, ← hzl, ← hkl]
              have hall : a < (L).length := by rw [HS.out.kq]; omega
              have HRl := Lib.hid (HR.out.add hall hol)
              have Hxal : Hid ((addQ L kl)[a]? = some x) := by show _ = _; rw [addQ_get hall]; exact Hxa.out
              have hml : kl ∈ (addQ L kl) := addQ_mem _ _
              have hMl := Lib.hid hml
              have HXl : Hid (∀ w', Below wr.heap.size wr w' → RdM w' w'.heap.size (some ⟨b, off, none⟩) E) := fun w' hb' => by have h2 := HS.out.bel.trans (hb'.mono HS.out.bel.size); exact Rd.more (Rd.below Hx.out h2) h2.size
              have HCl : Hid (∀ w', Below wr.heap.size wr w' → SixAt w' b2 (off2 + q * 6) g) := fun w' hb' => by have h2 := HS.out.bel.trans (hb'.mono HS.out.bel.size); rw [Hg.out]; exact (RdM.six (Rd.more (Rd.below Hy.out h2) h2.size) (k := q) (by rw [Hk.out]; exact hqk2)).1
              clear hol hzl hkl hzml hall hml
              go_wp2_with fail
              refine wp_region_same [] rfl (by kernel_rfl) (by kernel_rfl) (by kernel_rfl) (fun w' => Below wr.heap.size wr w') _
                [.slice (some ⟨b, off, none⟩) N c, .slice (some ⟨b2, off2, none⟩) k cg, I q, .pointer (some ⟨b2, off2 + q * 6, none⟩), .agg (mc g), .agg (mc f), .agg (mc zl), I kl, I kl]
                (by simp only [putAll, List.setIfInBounds_toArray, List.set_cons_succ, List.set_cons_zero]; rfl) (Below.refl _ _).drew ?hop ?hQ
              case hop =>
                refine FixBL.toL (fun w' w'' hS hb => hS.trans (hb.mono hS.size)) _ _ ?_
                refine ⟨.inr ?_, .inr ?_, .inr ?_, .inr ?_, .inr ?_, .inr ?_, .inr ?_, .inr ?_, .inr ?_, trivial⟩
                · (with_reducible refine FixB.of ?_ ?_; rfl; intro w' hS; have s0 := HCl.out _ hS; have s1 := (HB.out.below hS HB.out.lt).six; clear hS; unfold Oper.wp; go_simp; first | done | exact Below.refl _ _)
                · (with_reducible refine FixB.of ?_ ?_; rfl; intro w' hS; have s0 := HCl.out _ hS; have s1 := (HB.out.below hS HB.out.lt).six; clear hS; unfold Oper.wp; go_simp; first | done | exact Below.refl _ _)
                · (with_reducible refine FixB.of ?_ ?_; rfl; intro w' hS; have s0 := HCl.out _ hS; have s1 := (HB.out.below hS HB.out.lt).six; clear hS; unfold Oper.wp; go_simp; first | done | exact Below.refl _ _)
                · (with_reducible refine FixB.of ?_ ?_; rfl; intro w' hS; have s0 := HCl.out _ hS; have s1 := (HB.out.below hS HB.out.lt).six; clear hS; unfold Oper.wp; go_simp; first | done | exact Below.refl _ _)
                · (with_reducible refine FixB.of ?_ ?_; rfl; intro w' hS; have s0 := HCl.out _ hS; have s1 := (HB.out.below hS HB.out.lt).six; clear hS; unfold Oper.wp; go_simp; first | done | exact Below.refl _ _)
                · (with_reducible refine FixB.of ?_ ?_; rfl; intro w' hS; have s0 := HCl.out _ hS; have s1 := (HB.out.below hS HB.out.lt).six; clear hS; unfold Oper.wp; go_simp; first | done | exact Below.refl _ _)
                · (with_reducible refine FixB.of ?_ ?_; rfl; intro w' hS; have s3 := Lib.hid hS; unfold Oper.wp; clear hS; go_simp; refine ((Hzl.out ▸ l01Times_any g f _ hgv)).mono ?_; rintro e w1 ⟨rfl, hb⟩; exact ⟨rfl, hb⟩)
                · (with_reducible refine FixB.of ?_ ?_; rfl; intro w' hS; have s3 := Lib.hid hS; unfold Oper.wp; clear hS; go_simp; refine ((Hkl.out ▸ l03Index_any (some ⟨b, off, none⟩) N c E zl _ (HXl.out _ s3.out) Hn.out (by omega) HM.out.asc (fun g hg => (HM.out.ok g hg).1) hzlv)).mono ?_; rintro e w1 ⟨rfl, hb⟩; exact ⟨rfl, hb⟩)
                · (with_reducible refine FixB.of ?_ ?_; rfl; intro w' hS; have s0 := HCl.out _ hS; have s1 := (HB.out.below hS HB.out.lt).six; clear hS; unfold Oper.wp; go_simp; first | done | exact Below.refl _ _)
              case hQ =>
              intro wc hS _
              have Hwl := Lib.hid hS
              clear hS
              have HSl := Lib.hid (HS.out.below Hwl.out)
              have HBl := Lib.hid (HB.out.below Hwl.out HB.out.lt)
              obtain ⟨wl, hwl⟩ : ∃ y, y = wc := ⟨_, rfl⟩
              rw [← hwl] at HSl HBl ⊢
              have el := HSl.out.m.cell hll
              clear Hwl HXl HCl hwl
              by_cases hinl : kl ∈ L
              · rw [decide_eq_true hinl] at el
                have HSl2 : Hid (RS w wl N w.heap.size gq kq cq (addQ L kl)) := by show RS _ _ _ _ _ _ _ _; rw [addQ_old hinl]; exact HSl.out
                go_wp2_with fail
                go_roundw
                case rel => exact ⟨q + 1, (addQ L kl), gq, kq, cq, by go_num, rfl, by omega, by omega, HSl2.out, HRl.out.next Hxal.out (fun _ => by rw [HKl.out]; exact hMl.out) (fun e => by cases e), Hxal.out, HBl.out, hbq⟩
                case measure => simp [intOf]; omega
              · rw [decide_eq_false hinl] at el
                have fl := HSl.out.m.frozen kl
                have lMl := HSl.out.m.lt
                have hlnl : kq ≤ 300 := by have h1 := HR.out.len; have h2 := HSl.out.kq; have h3 := Hn.out; omega
                go_wp2_with (at_builtin; refine wpList_pushN rfl (.tmp 62) (.tmp 64) rfl w.heap.size (.slice (some ⟨gq, 0, none⟩) kq cq) (qI L) rfl (HSl.out.q4 kl _) kq (by rw [qI_len]; exact HSl.out.kq) wl.heap.size 1 kl rfl ((Blk.new' _ _ _ (by simp [World.setCell])).cell 0) (by omega) (by have := HSl.out.bel.size; simp [World.setCell]; omega) (wl.heap.size + 1) (by simp [World.setCell]) ?_; intro gl' capl wl6 hol hgrl hgl hltl; have HSl2 := Lib.hid (HSl.out.push hll hinl rfl rfl hol hgrl (hgl.imp id (fun e => by rw [e]; simp [World.setCell]))); have hbxl := HSl.out.box rfl rfl HBl.out hbM hbq hgrl (hgl.imp id (fun e => by rw [e]; simp [World.setCell])); have HBl6 := Lib.hid hbxl.1; have hbql := hbxl.2; clear hol hgrl hgl hltl hbxl)
                go_wp2_with fail
                go_roundw
                case rel => exact ⟨q + 1, (addQ L kl), gl', (kq + 1), capl, by go_num, rfl, by omega, by omega, HSl2.out, HRl.out.next Hxal.out (fun _ => by rw [HKl.out]; exact hMl.out) (fun e => by cases e), Hxal.out, HBl6.out, hbql⟩
                case measure => simp [intOf]; omega
            · obtain ⟨zl, hzl⟩ : ∃ z, z = mul g f := ⟨_, rfl⟩
              obtain ⟨kl, hkl⟩ : ∃ y, y = ix E zl := ⟨_, rfl⟩
              have hol := HR.out.left HM.out HGE.out (by rw [Hn.out]; exact hi0) Hxa.out (by rw [Hk.out]; exact hqk2) rfl
              rw [← Hf.out, ← Hg.out, ← hzl, ← hkl] at hol
              have hll : kl < N := by rw [← Hn.out]; exact hol.1
              have hllz : (kl : Int) < (N : Int) := by omega
              have hzml : zl ∈ E := by rw [hzl]; exact HM.out.mulE _ HgE.out _ HfE.out
              have hzlv := (HM.out.ok zl hzml).1
              have Hkl : Hid (plOf E zl - 1 = (kl : Int)) := by show _ = _; rw [plOf_in hzml, ← hkl]; omega
              have Hzl : Hid (mul g f = zl) := hzl.symm
              have HKl : Hid (ix E (mul (gm ms q) (gm E x)) = kl) := by show _ = _; rw [← Hf.out, ← Hg.out, ← hzl, ← hkl]
              have hall : a < (L).length := by rw [HS.out.kq]; omega
              have HRl := Lib.hid (HR.out.add hall hol)
              have Hxal : Hid ((addQ L kl)[a]? = some x) := by show _ = _; rw [addQ_get hall]; exact Hxa.out
              have hml : kl ∈ (addQ L kl) := addQ_mem _ _
              have hMl := Lib.hid hml
              have HXl : Hid (∀ w', Below wr.heap.size wr w' → RdM w' w'.heap.size (some ⟨b, off, none⟩) E) := fun w' hb' => by have h2 := HS.out.bel.trans (hb'.mono HS.out.bel.size); exact Rd.more (Rd.below Hx.out h2) h2.size
              have HCl : Hid (∀ w', Below wr.heap.size wr w' → SixAt w' b2 (off2 + q * 6) g) := fun w' hb' => by have h2 := HS.out.bel.trans (hb'.mono HS.out.bel.size); rw [Hg.out]; exact (RdM.six (Rd.more (Rd.below Hy.out h2) h2.size) (k := q) (by rw [Hk.out]; exact hqk2)).1
              clear hol hzl hkl hzml hall hml
              go_wp2_with fail
              refine wp_region_same [] rfl (by kernel_rfl) (by kernel_rfl) (by kernel_rfl) (fun w' => Below wr.heap.size wr w') _
                [.slice (some ⟨b, off, none⟩) N c, .slice (some ⟨b2, off2, none⟩) k cg, I q, .pointer (some ⟨b2, off2 + q * 6, none⟩), .agg (mc g), .agg (mc f), .agg (mc zl), I kl, I kl]
                (by simp only [putAll, List.setIfInBounds_toArray, List.set_cons_succ, List.set_cons_zero]; rfl) (Below.refl _ _).drew ?hop ?hQ
              case hop =>
                refine FixBL.toL (fun w' w'' hS hb => hS.trans (hb.mono hS.size)) _ _ ?_
                refine ⟨.inr ?_, .inr ?_, .inr ?_, .inr ?_, .inr ?_, .inr ?_, .inr ?_, .inr ?_, .inr ?_, trivial⟩
                · (with_reducible refine FixB.of ?_ ?_; rfl; intro w' hS; have s0 := HCl.out _ hS; have s1 := (HB.out.below hS HB.out.lt).six; clear hS; unfold Oper.wp; go_simp; first | done | exact Below.refl _ _)
                · (with_reducible refine FixB.of ?_ ?_; rfl; intro w' hS; have s0 := HCl.out _ hS; have s1 := (HB.out.below hS HB.out.lt).six; clear hS; unfold Oper.wp; go_simp; first | done | exact Below.refl _ _)
                · (with_reducible refine FixB.of ?_ ?_; rfl; intro w' hS; have s0 := HCl.out _ hS; have s1 := (HB.out.below hS HB.out.lt).six; clear hS; unfold Oper.wp; go_simp; first | done | exact Below.refl _ _)
                · (with_reducible refine FixB.of ?_ ?_; rfl; intro w' hS; have s0 := HCl.out _ hS; have s1 := (HB.out.below hS HB.out.lt).six; clear hS; unfold Oper.wp; go_simp; first | done | exact Below.refl _ _)
                · (with_reducible refine FixB.of ?_ ?_; rfl; intro w' hS; have s0 := HCl.out _ hS; have s1 := (HB.out.below hS HB.out.lt).six; clear hS; unfold Oper.wp; go_simp; first | done | exact Below.refl _ _)
                · (with_reducible refine FixB.of ?_ ?_; rfl; intro w' hS; have s0 := HCl.out _ hS; have s1 := (HB.out.below hS HB.out.lt).six; clear hS; unfold Oper.wp; go_simp; first | done | exact Below.refl _ _)
                · (with_reducible refine FixB.of ?_ ?_; rfl; intro w' hS; have s3 := Lib.hid hS; unfold Oper.wp; clear hS; go_simp; refine ((Hzl.out ▸ l01Times_any g f _ hgv)).mono ?_; rintro e w1 ⟨rfl, hb⟩; exact ⟨rfl, hb⟩)
                · (with_reducible refine FixB.of ?_ ?_; rfl; intro w' hS; have s3 := Lib.hid hS; unfold Oper.wp; clear hS; go_simp; refine ((Hkl.out ▸ l03Index_any (some ⟨b, off, none⟩) N c E zl _ (HXl.out _ s3.out) Hn.out (by omega) HM.out.asc (fun g hg => (HM.out.ok g hg).1) hzlv)).mono ?_; rintro e w1 ⟨rfl, hb⟩; exact ⟨rfl, hb⟩)
                · (with_reducible refine FixB.of ?_ ?_; rfl; intro w' hS; have s0 := HCl.out _ hS; have s1 := (HB.out.below hS HB.out.lt).six; clear hS; unfold Oper.wp; go_simp; first | done | exact Below.refl _ _)
              case hQ =>
              intro wc hS _
              have Hwl := Lib.hid hS
              clear hS
              have HSl := Lib.hid (HS.out.below Hwl.out)
              have HBl := Lib.hid (HB.out.below Hwl.out HB.out.lt)
              obtain ⟨wl, hwl⟩ : ∃ y, y = wc := ⟨_, rfl⟩
              rw [← hwl] at HSl HBl ⊢
              have el := HSl.out.m.cell hll
              clear Hwl HXl HCl hwl
              by_cases hinl : kl ∈ L
              · rw [decide_eq_true hinl] at el
                have HSl2 : Hid (RS w wl N w.heap.size gq kq cq (addQ L kl)) := by show RS _ _ _ _ _ _ _ _; rw [addQ_old hinl]; exact HSl.out
                obtain ⟨zr, hzr⟩ : ∃ z, z = mul f g := ⟨_, rfl⟩
                obtain ⟨kr, hkr⟩ : ∃ y, y = ix E zr := ⟨_, rfl⟩
                have hor := HRl.out.right HM.out HGE.out (by rw [Hn.out]; exact hi0) Hxal.out (by rw [Hk.out]; exact hqk2) rfl
                rw [← Hf.out, ← Hg.out, ← hzr, ← hkr] at hor
                have hlr : kr < N := by rw [← Hn.out]; exact hor.1
                have hlrz : (kr : Int) < (N : Int) := by omega
                have hzmr : zr ∈ E := by rw [hzr]; exact HM.out.mulE _ HfE.out _ HgE.out
                have hzrv := (HM.out.ok zr hzmr).1
                have Hkr : Hid (plOf E zr - 1 = (kr : Int)) := by show _ = _; rw [plOf_in hzmr, ← hkr]; omega
                have Hzr : Hid (mul f g = zr) := hzr.symm
                have HKr : Hid (ix E (mul (gm E x) (gm ms q)) = kr) := by show _ = _; rw [← Hf.out, ← Hg.out, ← hzr, ← hkr]
                have halr : a < ((addQ L kl)).length := by rw [HSl2.out.kq]; omega
                have HRr := Lib.hid (HRl.out.add halr hor)
                have Hxar : Hid ((addQ (addQ L kl) kr)[a]? = some x) := by show _ = _; rw [addQ_get halr]; exact Hxal.out
                have hmr : kr ∈ (addQ (addQ L kl) kr) := addQ_mem _ _
                have hMr := Lib.hid hmr
                have HXr : Hid (∀ w', Below wl.heap.size wl w' → RdM w' w'.heap.size (some ⟨b, off, none⟩) E) := fun w' hb' => by have h2 := HSl2.out.bel.trans (hb'.mono HSl2.out.bel.size); exact Rd.more (Rd.below Hx.out h2) h2.size
                have HCr : Hid (∀ w', Below wl.heap.size wl w' → SixAt w' b2 (off2 + q * 6) g) := fun w' hb' => by have h2 := HSl2.out.bel.trans (hb'.mono HSl2.out.bel.size); rw [Hg.out]; exact (RdM.six (Rd.more (Rd.below Hy.out h2) h2.size) (k := q) (by rw [Hk.out]; exact hqk2)).1
                clear hor hzr hkr hzmr halr hmr
                go_wp2_with fail
                refine wp_region_same [] rfl (by kernel_rfl) (by kernel_rfl) (by kernel_rfl) (fun w' => Below wl.heap.size wl w') _
                  [.slice (some ⟨b, off, none⟩) N c, .agg (mc f), .slice (some ⟨b2, off2, none⟩) k cg, I q, .pointer (some ⟨b2, off2 + q * 6, none⟩), .agg (mc g), .agg (mc zr), I kr, I kr]
                  (by simp only [putAll, List.setIfInBounds_toArray, List.set_cons_succ, List.set_cons_zero]; rfl) (Below.refl _ _).drew ?hop ?hQ
                case hop =>
                  refine FixBL.toL (fun w' w'' hS hb => hS.trans (hb.mono hS.size)) _ _ ?_
                  refine ⟨.inr ?_, .inr ?_, .inr ?_, .inr ?_, .inr ?_, .inr ?_, .inr ?_, .inr ?_, .inr ?_, trivial⟩
                  · (with_reducible refine FixB.of ?_ ?_; rfl; intro w' hS; have s0 := HCr.out _ hS; have s1 := (HBl.out.below hS HBl.out.lt).six; clear hS; unfold Oper.wp; go_simp; first | done | exact Below.refl _ _)
                  · (with_reducible refine FixB.of ?_ ?_; rfl; intro w' hS; have s0 := HCr.out _ hS; have s1 := (HBl.out.below hS HBl.out.lt).six; clear hS; unfold Oper.wp; go_simp; first | done | exact Below.refl _ _)
                  · (with_reducible refine FixB.of ?_ ?_; rfl; intro w' hS; have s0 := HCr.out _ hS; have s1 := (HBl.out.below hS HBl.out.lt).six; clear hS; unfold Oper.wp; go_simp; first | done | exact Below.refl _ _)
                  · (with_reducible refine FixB.of ?_ ?_; rfl; intro w' hS; have s0 := HCr.out _ hS; have s1 := (HBl.out.below hS HBl.out.lt).six; clear hS; unfold Oper.wp; go_simp; first | done | exact Below.refl _ _)
                  · (with_reducible refine FixB.of ?_ ?_; rfl; intro w' hS; have s0 := HCr.out _ hS; have s1 := (HBl.out.below hS HBl.out.lt).six; clear hS; unfold Oper.wp; go_simp; first | done | exact Below.refl _ _)
                  · (with_reducible refine FixB.of ?_ ?_; rfl; intro w' hS; have s0 := HCr.out _ hS; have s1 := (HBl.out.below hS HBl.out.lt).six; clear hS; unfold Oper.wp; go_simp; first | done | exact Below.refl _ _)
                  · (with_reducible refine FixB.of ?_ ?_; rfl; intro w' hS; have s3 := Lib.hid hS; unfold Oper.wp; clear hS; go_simp; refine ((Hzr.out ▸ l01Times_any f g _ hfv)).mono ?_; rintro e w1 ⟨rfl, hb⟩; exact ⟨rfl, hb⟩)
                  · (with_reducible refine FixB.of ?_ ?_; rfl; intro w' hS; have s3 := Lib.hid hS; unfold Oper.wp; clear hS; go_simp; refine ((Hkr.out ▸ l03Index_any (some ⟨b, off, none⟩) N c E zr _ (HXr.out _ s3.out) Hn.out (by omega) HM.out.asc (fun g hg => (HM.out.ok g hg).1) hzrv)).mono ?_; rintro e w1 ⟨rfl, hb⟩; exact ⟨rfl, hb⟩)
                  · (with_reducible refine FixB.of ?_ ?_; rfl; intro w' hS; have s0 := HCr.out _ hS; have s1 := (HBl.out.below hS HBl.out.lt).six; clear hS; unfold Oper.wp; go_simp; first | done | exact Below.refl _ _)
                case hQ =>
                intro wc hS _
                have Hwr := Lib.hid hS
                clear hS
                have HSr := Lib.hid (HSl2.out.below Hwr.out)
                have HBr := Lib.hid (HBl.out.below Hwr.out HBl.out.lt)
                obtain ⟨wr, hwr⟩ : ∃ y, y = wc := ⟨_, rfl⟩
                rw [← hwr] at HSr HBr ⊢
                have er := HSr.out.m.cell hlr
                clear Hwr HXr HCr hwr
                by_cases hinr : kr ∈ (addQ L kl)
                · rw [decide_eq_true hinr] at er
                  have HSr2 : Hid (RS w wr N w.heap.size gq kq cq (addQ (addQ L kl) kr)) := by show RS _ _ _ _ _ _ _ _; rw [addQ_old hinr]; exact HSr.out
                  go_wp2_with fail
                  go_roundw
                  case rel => exact ⟨q + 1, (addQ (addQ L kl) kr), gq, kq, cq, by go_num, rfl, by omega, by omega, HSr2.out, HRr.out.next Hxar.out (fun _ => by rw [HKl.out]; exact addQ_of hMl.out) (fun _ => by rw [HKr.out]; exact hMr.out), Hxar.out, HBr.out, hbq⟩
                  case measure => simp [intOf]; omega
                · rw [decide_eq_false hinr] at er
                  have fr := HSr.out.m.frozen kr
                  have lMr := HSr.out.m.lt
                  have hlnr : kq ≤ 300 := by have h1 := HRl.out.len; have h2 := HSr.out.kq; have h3 := Hn.out; omega
                  go_wp2_with (at_builtin; refine wpList_pushN rfl (.tmp 83) (.tmp 85) rfl w.heap.size (.slice (some ⟨gq, 0, none⟩) kq cq) (qI (addQ L kl)) rfl (HSr.out.q4 kr _) kq (by rw [qI_len]; exact HSr.out.kq) wr.heap.size 1 kr rfl ((Blk.new' _ _ _ (by simp [World.setCell])).cell 0) (by omega) (by have := HSr.out.bel.size; simp [World.setCell]; omega) (wr.heap.size + 1) (by simp [World.setCell]) ?_; intro gr' capr wr6 hor hgrr hgr hltr; have HSr2 := Lib.hid (HSr.out.push hlr hinr rfl rfl hor hgrr (hgr.imp id (fun e => by rw [e]; simp [World.setCell]))); have hbxr := HSr.out.box rfl rfl HBr.out hbM hbq hgrr (hgr.imp id (fun e => by rw [e]; simp [World.setCell])); have HBr6 := Lib.hid hbxr.1; have hbqr := hbxr.2; clear hor hgrr hgr hltr hbxr)
                  go_wp2_with fail
                  go_roundw
                  case rel => exact ⟨q + 1, (addQ (addQ L kl) kr), gr', (kq + 1), capr, by go_num, rfl, by omega, by omega, HSr2.out, HRr.out.next Hxar.out (fun _ => by rw [HKl.out]; exact addQ_of hMl.out) (fun _ => by rw [HKr.out]; exact hMr.out), Hxar.out, HBr6.out, hbqr⟩
                  case measure => simp [intOf]; omega
              · rw [decide_eq_false hinl] at el
                have fl := HSl.out.m.frozen kl
                have lMl := HSl.out.m.lt
                have hlnl : kq ≤ 300 := by have h1 := HR.out.len; have h2 := HSl.out.kq; have h3 := Hn.out; omega
                go_wp2_with (at_builtin; refine wpList_pushN rfl (.tmp 62) (.tmp 64) rfl w.heap.size (.slice (some ⟨gq, 0, none⟩) kq cq) (qI L) rfl (HSl.out.q4 kl _) kq (by rw [qI_len]; exact HSl.out.kq) wl.heap.size 1 kl rfl ((Blk.new' _ _ _ (by simp [World.setCell])).cell 0) (by omega) (by have := HSl.out.bel.size; simp [World.setCell]; omega) (wl.heap.size + 1) (by simp [World.setCell]) ?_; intro gl' capl wl6 hol hgrl hgl hltl; have HSl2 := Lib.hid (HSl.out.push hll hinl rfl rfl hol hgrl (hgl.imp id (fun e => by rw [e]; simp [World.setCell]))); have hbxl := HSl.out.box rfl rfl HBl.out hbM hbq hgrl (hgl.imp id (fun e => by rw [e]; simp [World.setCell])); have HBl6 := Lib.hid hbxl.1; have hbql := hbxl.2; clear hol hgrl hgl hltl hbxl)
                obtain ⟨zr, hzr⟩ : ∃ z, z = mul f g := ⟨_, rfl⟩
                obtain ⟨kr, hkr⟩ : ∃ y, y = ix E zr := ⟨_, rfl⟩
                have hor := HRl.out.right HM.out HGE.out (by rw [Hn.out]; exact hi0) Hxal.out (by rw [Hk.out]; exact hqk2) rfl
                rw [← Hf.out, ← Hg.out, ← hzr, ← hkr] at hor
                have hlr : kr < N := by rw [← Hn.out]; exact hor.1
                have hlrz : (kr : Int) < (N : Int) := by omega
                have hzmr : zr ∈ E := by rw [hzr]; exact HM.out.mulE _ HfE.out _ HgE.out
                have hzrv := (HM.out.ok zr hzmr).1
                have Hkr : Hid (plOf E zr - 1 = (kr : Int)) := by show _ = _; rw [plOf_in hzmr, ← hkr]; omega
                have Hzr : Hid (mul f g = zr) := hzr.symm
                have HKr : Hid (ix E (mul (gm E x) (gm ms q)) = kr) := by show _ = _; rw [← Hf.out, ← Hg.out, ← hzr, ← hkr]
                have halr : a < ((addQ L kl)).length := by rw [HSl2.out.kq]; omega
                have HRr := Lib.hid (HRl.out.add halr hor)
                have Hxar : Hid ((addQ (addQ L kl) kr)[a]? = some x) := by show _ = _; rw [addQ_get halr]; exact Hxal.out
                have hmr : kr ∈ (addQ (addQ L kl) kr) := addQ_mem _ _
                have hMr := Lib.hid hmr
                have HXr : Hid (∀ w', Below wl6.heap.size wl6 w' → RdM w' w'.heap.size (some ⟨b, off, none⟩) E) := fun w' hb' => by have h2 := HSl2.out.bel.trans (hb'.mono HSl2.out.bel.size); exact Rd.more (Rd.below Hx.out h2) h2.size
                have HCr : Hid (∀ w', Below wl6.heap.size wl6 w' → SixAt w' b2 (off2 + q * 6) g) := fun w' hb' => by have h2 := HSl2.out.bel.trans (hb'.mono HSl2.out.bel.size); rw [Hg.out]; exact (RdM.six (Rd.more (Rd.below Hy.out h2) h2.size) (k := q) (by rw [Hk.out]; exact hqk2)).1
                clear hor hzr hkr hzmr halr hmr
                go_wp2_with fail
                refine wp_region_same [] rfl (by kernel_rfl) (by kernel_rfl) (by kernel_rfl) (fun w' => Below wl6.heap.size wl6 w') _
                  [.slice (some ⟨b, off, none⟩) N c, .agg (mc f), .slice (some ⟨b2, off2, none⟩) k cg, I q, .pointer (some ⟨b2, off2 + q * 6, none⟩), .agg (mc g), .agg (mc zr), I kr, I kr]
                  (by simp only [putAll, List.setIfInBounds_toArray, List.set_cons_succ, List.set_cons_zero]; rfl) (Below.refl _ _).drew ?hop ?hQ
                case hop =>
                  refine FixBL.toL (fun w' w'' hS hb => hS.trans (hb.mono hS.size)) _ _ ?_
                  refine ⟨.inr ?_, .inr ?_, .inr ?_, .inr ?_, .inr ?_, .inr ?_, .inr ?_, .inr ?_, .inr ?_, trivial⟩
                  · (with_reducible refine FixB.of ?_ ?_; rfl; intro w' hS; have s0 := HCr.out _ hS; have s1 := (HBl6.out.below hS HBl6.out.lt).six; clear hS; unfold Oper.wp; go_simp; first | done | exact Below.refl _ _)
                  · (with_reducible refine FixB.of ?_ ?_; rfl; intro w' hS; have s0 := HCr.out _ hS; have s1 := (HBl6.out.below hS HBl6.out.lt).six; clear hS; unfold Oper.wp; go_simp; first | done | exact Below.refl _ _)
                  · (with_reducible refine FixB.of ?_ ?_; rfl; intro w' hS; have s0 := HCr.out _ hS; have s1 := (HBl6.out.below hS HBl6.out.lt).six; clear hS; unfold Oper.wp; go_simp; first | done | exact Below.refl _ _)
                  · (with_reducible refine FixB.of ?_ ?_; rfl; intro w' hS; have s0 := HCr.out _ hS; have s1 := (HBl6.out.below hS HBl6.out.lt).six; clear hS; unfold Oper.wp; go_simp; first | done | exact Below.refl _ _)
                  · (with_reducible refine FixB.of ?_ ?_; rfl; intro w' hS; have s0 := HCr.out _ hS; have s1 := (HBl6.out.below hS HBl6.out.lt).six; clear hS; unfold Oper.wp; go_simp; first | done | exact Below.refl _ _)
                  · (with_reducible refine FixB.of ?_ ?_; rfl; intro w' hS; have s0 := HCr.out _ hS; have s1 := (HBl6.out.below hS HBl6.out.lt).six; clear hS; unfold Oper.wp; go_simp; first | done | exact Below.refl _ _)
                  · (with_reducible refine FixB.of ?_ ?_; rfl; intro w' hS; have s3 := Lib.hid hS; unfold Oper.wp; clear hS; go_simp; refine ((Hzr.out ▸ l01Times_any f g _ hfv)).mono ?_; rintro e w1 ⟨rfl, hb⟩; exact ⟨rfl, hb⟩)
                  · (with_reducible refine FixB.of ?_ ?_; rfl; intro w' hS; have s3 := Lib.hid hS; unfold Oper.wp; clear hS; go_simp; refine ((Hkr.out ▸ l03Index_any (some ⟨b, off, none⟩) N c E zr _ (HXr.out _ s3.out) Hn.out (by omega) HM.out.asc (fun g hg => (HM.out.ok g hg).1) hzrv)).mono ?_; rintro e w1 ⟨rfl, hb⟩; exact ⟨rfl, hb⟩)
                  · (with_reducible refine FixB.of ?_ ?_; rfl; intro w' hS; have s0 := HCr.out _ hS; have s1 := (HBl6.out.below hS HBl6.out.lt).six; clear hS; unfold Oper.wp; go_simp; first | done | exact Below.refl _ _)
                case hQ =>
                intro wc hS _
                have Hwr := Lib.hid hS
                clear hS
                have HSr := Lib.hid (HSl2.out.below Hwr.out)
                have HBr := Lib.hid (HBl6.out.below Hwr.out HBl6.out.lt)
                obtain ⟨wr, hwr⟩ : ∃ y, y = wc := ⟨_, rfl⟩
                rw [← hwr] at HSr HBr ⊢
                have er := HSr.out.m.cell hlr
                clear Hwr HXr HCr hwr
                by_cases hinr : kr ∈ (addQ L kl)
                · rw [decide_eq_true hinr] at er
                  have HSr2 : Hid (RS w wr N w.heap.size gl' (kq + 1) capl (addQ (addQ L kl) kr)) := by show RS _ _ _ _ _ _ _ _; rw [addQ_old hinr]; exact HSr.out
                  go_wp2_with fail
                  go_roundw
                  case rel => exact ⟨q + 1, (addQ (addQ L kl) kr), gl', (kq + 1), capl, by go_num, rfl, by omega, by omega, HSr2.out, HRr.out.next Hxar.out (fun _ => by rw [HKl.out]; exact addQ_of hMl.out) (fun _ => by rw [HKr.out]; exact hMr.out), Hxar.out, HBr.out, hbql⟩
                  case measure => simp [intOf]; omega
                · rw [decide_eq_false hinr] at er
                  have fr := HSr.out.m.frozen kr
                  have lMr := HSr.out.m.lt
                  have hlnr : (kq + 1) ≤ 300 := by have h1 := HRl.out.len; have h2 := HSr.out.kq; have h3 := Hn.out; omega
                  go_wp2_with (at_builtin; refine wpList_pushN rfl (.tmp 83) (.tmp 85) rfl w.heap.size (.slice (some ⟨gl', 0, none⟩) (kq + 1) capl) (qI (addQ L kl)) rfl (HSr.out.q4 kr _) (kq + 1) (by rw [qI_len]; exact HSr.out.kq) wr.heap.size 1 kr rfl ((Blk.new' _ _ _ (by simp [World.setCell])).cell 0) (by omega) (by have := HSr.out.bel.size; simp [World.setCell]; omega) (wr.heap.size + 1) (by simp [World.setCell]) ?_; intro gr' capr wr6 hor hgrr hgr hltr; have HSr2 := Lib.hid (HSr.out.push hlr hinr rfl rfl hor hgrr (hgr.imp id (fun e => by rw [e]; simp [World.setCell]))); have hbxr := HSr.out.box rfl rfl HBr.out hbM hbql hgrr (hgr.imp id (fun e => by rw [e]; simp [World.setCell])); have HBr6 := Lib.hid hbxr.1; have hbqr := hbxr.2; clear hor hgrr hgr hltr hbxr)
                  go_wp2_with fail
                  go_roundw
                  case rel => exact ⟨q + 1, (addQ (addQ L kl) kr), gr', ((kq + 1) + 1), capr, by go_num, rfl, by omega, by omega, HSr2.out, HRr.out.next Hxar.out (fun _ => by rw [HKl.out]; exact addQ_of hMl.out) (fun _ => by rw [HKr.out]; exact hMr.out), Hxar.out, HBr6.out, hbqr⟩
                  case measure => simp [intOf]; omega
        · obtain rfl : q = k := by omega
          have hqz : ¬ ((q : Int) < (q : Int)) := by omega
          have HR2 : Hid (Rch E ms l r i0 L (a + 1) 0) := Rch.row (by have := HR.out; rwa [← Hk.out] at this)
          go_wp2_with fail
          go_roundw
          case rel => exact ⟨a + 1, L, gq, kq, cq, by go_num, rfl, by omega, HS.out, HR2.out⟩
          case measure => simp [intOf]; have h1 := HR.out.len; have h2 := HS.out.kq; have h3 := Hn.out; omega
    · obtain rfl : a = kq := by omega
      have haz : ¬ ((a : Int) < (a : Int)) := by omega
      have HB : Hid (Bls wr w.heap.size N fun y => decide (Rel E l r (gm E i0) (gm E y))) := hS.m.congr fun y hy => by
        subst hkq
        exact hR.fin HM.out HE.out HG.out (by rw [Hn.out]; exact hi0) (by rw [Hn.out]; exact hy)
      have Hb := Lib.hid hS.bel
      clear hS hR hkq
      go_wp2_with fail
      go_ret
      exact ⟨_, rfl, Nat.le_refl _, HB.out, Hb.out⟩
end Go.Proofs.Ytneonacdjmfaoaa
