/- Contract of the function that strikes neighbours that are alike; the list is a row of the call's own. Contracts of images of sets and of ranks; the maps are valid where the theorems say so. Contracts of ranks, inverses and renumbered maps; the maps are valid where the theorems say so. Contracts of SizesByRank on both sides; the lists are as each theorem states. Contracts of the maps of words; no conditions beyond those that each theorem states. Contracts of the maps of words; the lists are as each theorem states. Words of numbers: among the shortest words of a value there is one of least number; all parts of it are such words too; if sixth powers can be shortened and there are at most 300 values, it has at most 64 letters; the conditions are those of each theorem. The words of the closure of at most six maps are shortest ones, and have at most 64 letters; the maps are of one to five points, the same for all, as each theorem states. Contracts of the reference's search for a map's number and of its search for what an element reaches; conditions as each theorem states. What the reference's search reaches: plain laws. Contract of the reference's search for what an element reaches; conditions as the theorem states. Contract of the reference's elements with the numbers of some of them; conditions as the theorem states. Contracts of IsUnder on both sides; the lists are as each theorem states. Contracts of IsRegular on both sides; the lists are as each theorem states. Contract of the program's IsRegular; the lists are as the theorem states. Contract of the program's numbering of classes by a predicate of two places; at most 300 places. Contracts of the program's numbers of classes and their count; the monoid has at most 300 elements. The law on monoids in plain words: words and their maps, numbers by rank and by length; no program in sight; the lists are as each theorem states. -/
import Derived.Test.YtchjegojcpbfpaaGreatQM07
import Derived.Deep.QuietTactic
import Derived.BigQuiet
import Derived.Deep.RegionWith
set_option linter.unusedSimpArgs false
set_option linter.unusedVariables false
namespace Go.Proofs.YtchjegojcpbfpaaGreat
open Go.RowKit
set_option maxRecDepth 100000
theorem last_take {zs : List Int} {k : Nat} (h0 : 0 < k) (hk : k ≤ zs.length) : (zs.take k).getLast? = some (gi zs (k - 1)) := by
  rw [List.getLast?_eq_getElem?, List.length_take, Nat.min_eq_left hk, List.getElem?_take, if_pos (by omega), List.getElem?_eq_getElem (by omega), gi_eq (by omega)]
theorem dd_take {zs : List Int} {k : Nat} (h0 : 0 < k) (hk : k < zs.length) : dd (zs.take (k + 1)) = if gi zs (k - 1) = gi zs k then dd (zs.take k) else dd (zs.take k) ++ [gi zs k] := by
  have e : zs.take (k + 1) = zs.take k ++ [gi zs k] := by
    rw [List.take_add_one, List.getElem?_eq_getElem hk, gi_eq hk]; rfl
  rw [e, dd_snoc _ (by intro h; have h' := congrArg List.length h; rw [List.length_take, List.length_nil] at h'; omega), last_take h0 (by omega)]
  simp
theorem compact_any (g n c B : Nat) (zs : List Int) (w : World) (ho : OwI 2 w B (.slice (some ⟨g, 0, none⟩) n c) zs) (hb : n < 1073741824) :
    Calls Tryz.prog 128 #[.slice (some ⟨g, 0, none⟩) n c] w fun e w' => ∃ v, e = .returned v ∧ OwI 2 w' B v (dd zs) ∧ Below B w w' := by
  have hcap := ho.cap
  have Hn := Lib.hid hcap.1
  have hnc := hcap.2
  clear hcap
  by_cases h2 : n < 2
  · have Hr : Hid (dd zs = zs) := by
      have := Hn.out
      match zs, this with
      | [], _ => rfl
      | [_], _ => rfl
      | _ :: _ :: _, h => simp at h; omega
    go_enter Tryz.func128, Tryz.ntmps128
    go_wp2
    go_ret
    exact ⟨_, rfl, by rw [Hr.out]; exact ho, Below.refl _ _⟩
  · go_enter Tryz.func128, Tryz.ntmps128
    go_wp2_with fail
    go_loopw [3] (fun i wr => ∃ k : Nat, 1 ≤ k ∧ k ≤ n ∧ i = .int .i64 k ∧ Hid (dd (zs.take k) = zs.take k) ∧ OwI 2 wr B (.slice (some ⟨g, 0, none⟩) n c) zs ∧ Below B w wr) (fun i _ => n - (intOf i).toNat)
    case atStart =>
      refine ⟨1, by omega, by omega, rfl, ?_, ho, Below.refl _ _⟩
      show _ = _
      match zs, Hn.out with
      | [], _ => rfl
      | _ :: _, _ => rfl
    case round =>
      clear ho
      obtain ⟨k, hk1, hk, rfl, hd, ho, hbel⟩ := hrel
      by_cases hlt : k < n
      · obtain ⟨c1, _⟩ := ho.spotD (k := k) (by rw [Hn.out]; exact hlt)
        obtain ⟨c2, _⟩ := ho.spotD (k := k - 1) (by rw [Hn.out]; omega)
        have hwk : IntKind.i64.wrap ((k : Int) - 1) = ((k - 1 : Nat) : Int) := by rw [IntWalk.i64_in _ ⟨by omega, by omega⟩]; omega
        have i0 : (0 : Int) ≤ (k : Int) := by omega
        have i1 : (k : Int) < (n : Int) := by omega
        have i2 : (0 : Int) ≤ ((k - 1 : Nat) : Int) := by omega
        have i3 : ((k - 1 : Nat) : Int) < (n : Int) := by omega
        have hdt := dd_take (zs := zs) (k := k) (by omega) (by rw [Hn.out]; exact hlt)
        have Hdt := Lib.hid hdt
        clear hdt
        by_cases he : gi zs (k - 1) = gi zs k
        · have heb : (gi zs k == gi zs (k - 1)) = true := by rw [he]; simp
          have Hx : Hid (dd (zs.take (k + 1)) = zs.take k) := by show _ = _; rw [Hdt.out, if_pos he, hd.out]
          clear he
          go_wp2_with fail
          go_quiet (fail)
          have ho2 := ho.drewN nq
          have hbel2 := hbel.drewN nq
          generalize wr.drewN nq = w2 at ho2 hbel2 ⊢
          clear ho hbel c1 c2
          go_wp2_with fail
          go_loopw [3, 5] (fun i j wq => ∃ (a m : Nat) (rs : List Int), i = .int .i64 a ∧ j = .int .i64 m ∧ 1 ≤ m ∧ m ≤ n - k ∧ a < k + m ∧ 1 ≤ a ∧ Hid (rs.length = n ∧ rs.take a = dd (zs.take (k + m)) ∧ ∀ t, k + m - 1 ≤ t → t < n → gi rs t = gi zs t) ∧ OwI 2 wq B (.slice (some ⟨g, 0, none⟩) n c) rs ∧ Below B w wq) (fun _ j _ => n - (intOf j).toNat)
          case atStart => exact ⟨k, 1, zs, rfl, rfl, by omega, by omega, by omega, by omega, ⟨Hn.out, Hx.out.symm, fun _ _ _ => rfl⟩, ho2, hbel2⟩
          case round =>
            clear ho2 hbel2
            obtain ⟨a, m, rs, rfl, rfl, hm1, hmn, ham, ha1, Hy, hor, hbel⟩ := hrel
            by_cases hlm : m < n - k
            · obtain ⟨c1, _⟩ := hor.spotD (k := k + m) (by rw [Hy.out.1]; omega)
              obtain ⟨c2, _⟩ := hor.spotD (k := k + (m - 1)) (by rw [Hy.out.1]; omega)
              rw [Hy.out.2.2 (k + m) (by omega) (by omega)] at c1
              rw [Hy.out.2.2 (k + (m - 1)) (by omega) (by omega)] at c2
              have hwm : IntKind.i64.wrap ((m : Int) - 1) = ((m - 1 : Nat) : Int) := by rw [IntWalk.i64_in _ ⟨by omega, by omega⟩]; omega
              have j0 : (0 : Int) ≤ (m : Int) := by omega
              have j1 : (m : Int) < ((n - k : Nat) : Int) := by omega
              have j2 : (0 : Int) ≤ ((m - 1 : Nat) : Int) := by omega
              have j3 : ((m - 1 : Nat) : Int) < ((n - k : Nat) : Int) := by omega
              have hdm := dd_take (zs := zs) (k := k + m) (by omega) (by rw [Hn.out]; omega)
              rw [show k + m - 1 = k + (m - 1) by omega] at hdm
              have Hdm := Lib.hid hdm
              clear hdm
              by_cases he2 : gi zs (k + (m - 1)) = gi zs (k + m)
              · have heb2 : (gi zs (k + m) != gi zs (k + (m - 1))) = false := by rw [he2]; simp
                have Hz : Hid (rs.length = n ∧ rs.take a = dd (zs.take (k + (m + 1))) ∧ ∀ t, k + (m + 1) - 1 ≤ t → t < n → gi rs t = gi zs t) :=
                  ⟨Hy.out.1, by rw [← Nat.add_assoc, Hdm.out, if_pos he2]; exact Hy.out.2.1, fun t h1 h2 => Hy.out.2.2 t (by omega) h2⟩
                clear he2
                go_wp2_with fail
                go_quiet (fail)
                go_wp2
                go_roundw
                case rel => exact ⟨a, m + 1, rs, rfl, by go_num, by omega, by omega, by omega, ha1, Hz, hor.drewN _, hbel.drewN _⟩
                case measure => simp [intOf]; omega
              · have heb2 : (gi zs (k + m) != gi zs (k + (m - 1))) = true := by simpa using fun h => he2 h.symm
                obtain ⟨c3, z3, hgl, hBg, hst⟩ := hor.spotD (k := a) (by rw [Hy.out.1]; omega)
                have Hz : Hid ((rs.set a (gi zs (k + m))).length = n ∧ (rs.set a (gi zs (k + m))).take (a + 1) = dd (zs.take (k + (m + 1))) ∧ ∀ t, k + (m + 1) - 1 ≤ t → t < n → gi (rs.set a (gi zs (k + m))) t = gi zs t) := by
                  refine ⟨by simp [Hy.out.1], ?_, fun t h1 h2 => ?_⟩
                  · rw [← Nat.add_assoc, Hdm.out, if_neg he2, ← Hy.out.2.1, List.take_add_one, List.take_set_of_le (Nat.le_refl _)]
                    simp [show a < rs.length by rw [Hy.out.1]; omega]
                  · rw [← Hy.out.2.2 t (by omega) h2]
                    unfold gi
                    simp [List.getD, show ¬ a = t by omega]
                have Hst := Lib.hid (fun nq => (hor.drewN nq).spotD (k := a) (by rw [Hy.out.1]; omega))
                have k0 : (0 : Int) ≤ (a : Int) := by omega
                have k1 : (a : Int) < (n : Int) := by omega
                clear he2 hst
                go_wp2_with fail
                go_quiet (fail)
                go_wp2
                go_roundw
                case rel => exact ⟨a + 1, m + 1, _, by go_num, by go_num, by omega, by omega, by omega, by omega, Hz, (Hst.out _).2.2.2.2 _, (hbel.drewN _).setCell hBg _⟩
                case measure => simp [intOf]; omega
            · obtain rfl : m = n - k := by omega
              have Hres : Hid (dd zs = rs.take a) := by
                show _ = _
                rw [Hy.out.2.1, show k + (n - k) = n by omega, ← Hn.out, List.take_length]
              obtain ⟨w9, hcl, ho9, hb9⟩ := clearI hor Hy.out.1 (a := a) (by omega) 0 (c - a)
              have hbel9 := hbel.trans hb9
              have k0 : (0 : Int) ≤ (a : Int) := by omega
              have k1 : (a : Int) < (n : Int) := by omega
              clear hb9 hor hbel
              go_wp2
              go_ret
              exact ⟨_, rfl, by rw [Hres.out]; exact ho9, hbel9⟩
        · have heb : (gi zs k == gi zs (k - 1)) = false := by rw [beq_eq_false_iff_ne]; exact fun h => he h.symm
          have Hx : Hid (dd (zs.take (k + 1)) = zs.take (k + 1)) := by
            show _ = _
            rw [Hdt.out, if_neg he, hd.out, List.take_add_one, List.getElem?_eq_getElem (by rw [Hn.out]; exact hlt), gi_eq (by rw [Hn.out]; exact hlt)]; rfl
          clear he
          go_wp2_with fail
          go_quiet (fail)
          go_wp2
          go_roundw
          case rel => exact ⟨k + 1, by omega, by omega, by go_num, Hx, ho.drewN _, hbel.drewN _⟩
          case measure => simp [intOf]; omega
      · obtain rfl : k = n := by omega
        have Hr : Hid (dd zs = zs) := by
          have := hd.out
          rwa [← Hn.out, List.take_length] at this
        go_wp2
        go_ret
        exact ⟨_, rfl, by rw [Hr.out]; exact ho, hbel⟩
end Go.Proofs.YtchjegojcpbfpaaGreat

namespace Go.Proofs.YtchjegojcpbfpaaGreat
open Go.RowKit
set_option maxRecDepth 100000
def led (f : M) (zs : List Int) : List Int := zs.map fun z => f.at z.toNat
theorem led_length (f : M) (zs : List Int) : (led f zs).length = zs.length := by simp [led]
theorem led_snoc {f : M} {zs : List Int} {k : Nat} (hk : k < zs.length) : led f (zs.take (k + 1)) = led f (zs.take k) ++ [f.at (gi zs k).toNat] := by
  rw [List.take_add_one, List.getElem?_eq_getElem hk, led, led, gi_eq hk, List.map_append]; rfl
def imQ (f : M) (zs : List Int) (z : Int) : Bool := decide (z ∈ led f zs)
theorem ups_strict : ∀ n, (ups n).Pairwise (· < ·)
  | 0 => List.Pairwise.nil
  | n + 1 => by
    rw [ups_succ, List.pairwise_append]
    refine ⟨ups_strict n, by simp, fun a ha b hb => ?_⟩
    obtain ⟨k, hk, rfl⟩ := ups_mem ha
    simp at hb; omega
theorem sel_strict (q : Int → Bool) (n : Nat) : (sel q n).Pairwise (· < ·) := (ups_strict n).filter q
theorem sel_mem {q : Int → Bool} {n : Nat} {z : Int} : z ∈ sel q n ↔ (∃ k : Nat, k < n ∧ z = k) ∧ q z = true := by
  rw [sel, List.mem_filter]
  constructor
  · rintro ⟨h1, h2⟩; exact ⟨ups_mem h1, h2⟩
  · rintro ⟨⟨k, hk, rfl⟩, h2⟩; exact ⟨by simp [ups]; exact ⟨k, hk, rfl⟩, h2⟩
theorem sorted_pair {cs : List Int} (h : SortedTo cs cs.length) : cs.Pairwise (· ≤ ·) := by
  rw [List.pairwise_iff_getElem]
  intro i j hi hj hij
  have := h i j hij hj
  rwa [gi_eq hi, gi_eq hj] at this
theorem dd_img {f : M} {zs cs : List Int} {N : Nat} (hp : cs.Perm (led f zs)) (hs : SortedTo cs cs.length) (hbd : ∀ z, z ∈ led f zs → 0 ≤ z ∧ z < N) : dd cs = sel (imQ f zs) N := by
  refine strict_ext (dd_strict (sorted_pair hs)) (sel_strict _ _) fun z => ?_
  rw [dd_mem, sel_mem, hp.mem_iff]
  constructor
  · intro h
    have := hbd z h
    exact ⟨⟨z.toNat, by omega, by omega⟩, by simp [imQ, h]⟩
  · rintro ⟨_, h⟩; simpa [imQ] using h
theorem compact_nil (w : World) : Calls Tryz.prog 128 #[.slice none 0 0] w fun e w' => e = .returned (.slice none 0 0) ∧ w = w' := by
  go_enter Tryz.func128, Tryz.ntmps128
  go_wp2
  go_ret
  exact ⟨rfl, rfl⟩
theorem compact_all (v : Value) (B : Nat) (zs : List Int) (w : World) (ho : OwI 2 w B v zs) (hb : zs.length < 1073741824) :
    Calls Tryz.prog 128 #[v] w fun e w' => ∃ v', e = .returned v' ∧ OwI 2 w' B v' (dd zs) ∧ Below B w w' := by
  rcases ho.2 with ⟨rfl, h0⟩ | ⟨g, cap, cur, rfl, _⟩
  · obtain rfl : zs = [] := List.eq_nil_of_length_eq_zero h0
    refine (compact_nil w).mono ?_
    rintro e w' ⟨rfl, rfl⟩
    exact ⟨_, rfl, ho, Below.refl _ _⟩
  · exact compact_any g zs.length cap B zs w ho hb
theorem image_any (f : M) (A : Option Addr) (n c : Nat) (zs : List Int) (w : World) (hv : Valid f) (hx : RdI w w.heap.size A zs) (hn : zs.length = n) (hb : n ≤ 12) (hbd : ∀ j, j < zs.length → 0 ≤ gi zs j ∧ gi zs j < f.p) :
    Calls Tryz.prog 115 #[.agg (mc f), .slice A n c] w fun e w' => ∃ v, e = .returned v ∧ OwI 2 w' w.heap.size v (sel (imQ f zs) 5) ∧ Below w.heap.size w w' := by
  have hp1 := hv.p1
  have hp5 := hv.p5
  have Hn := Lib.hid hn
  have Hx := Lib.hid hx
  have Hd := Lib.hid hbd
  clear hn hx hbd
  have HX : Hid (∀ w', Below w.heap.size w w' → RdI w' w.heap.size A zs) := fun w' hb => Hx.out.below hb
  go_enter Tryz.func115, Tryz.ntmps115
  go_wp2
  go_loopw [5, 10] (fun v i wr => ∃ k : Nat, k ≤ n ∧ i = .int .i64 k ∧ OwI 2 wr (w.heap.size + 1) v (led f (zs.take k)) ∧ Six wr w.heap.size f ∧ Below w.heap.size w wr) (fun _ i _ => n - (intOf i).toNat)
  case atStart => exact ⟨0, by omega, rfl, OwI.nil_, Blk.six (Blk.new _ _ _), by (repeat (first | with_reducible assumption | with_reducible exact Below.refl _ _ | with_reducible refine Below.setCell ?_ (by first | omega | (simp <;> omega)) _ | with_reducible refine Below.alloc ?_ (by first | omega | (simp <;> omega)) _ | with_reducible refine Below.drew ?_ | with_reducible refine Below.drewN ?_ _))⟩
  case round =>
    obtain ⟨k, hk, rfl, ho, hs, hbel⟩ := hrel
    obtain ⟨S, d, hv', _⟩ := ho.form
    have hlen : (led f (zs.take k)).length = k := by rw [led_length, List.length_take, Hn.out]; omega
    rw [hlen] at hv'
    subst hv'
    have Hlen := Lib.hid hlen
    have hsz := hbel.size
    have hsl := hs.lt
    clear hlen
    by_cases hlt : k < n
    · obtain ⟨b, off, rfl, hbb, c1⟩ := RdI.at_ (HX.out _ hbel) (k := k) (by rw [Hn.out]; exact hlt)
      obtain ⟨b1, b2⟩ := Hd.out k (by rw [Hn.out]; exact hlt)
      have c2 := six_at hs (gi zs k).toNat (by omega)
      have hb5 : gi zs k < 5 := by omega
      have Hls := Lib.hid (led_snoc (f := f) (zs := zs) (k := k) (by rw [Hn.out]; exact hlt))
      go_wp2_with (at_builtin; refine wpList_pushI rfl (.tmp 14) (.tmp 19) rfl (w.heap.size + 1) (.slice S k d) (led f (zs.take k)) rfl (ho.alloc _) wr.heap.size 1 (f.at (gi zs k).toNat) rfl ((Blk.new _ _ _).cell 0) (by rw [Hlen.out]; omega) (by simp; omega) (wr.heap.size + 1) (by simp) ?_; intro g' cap w4 ho' hgr hg' hlt')
      go_roundw
      case rel => exact ⟨k + 1, by omega, by go_num, by rw [Hls.out]; simpa [Hlen.out] using ho', (hs.alloc _).grown hgr (ho.ne (by omega)), (ho.alloc _).bel (hbel.alloc hsz _) hgr (by omega) (by simp; omega)⟩
      case measure => simp [intOf]; omega
    · obtain rfl : k = n := by omega
      have e : zs.take k = zs := by rw [← Hn.out, List.take_length]
      rw [e] at ho Hlen
      clear e
      go_wp2_with fail
      refine (sortI_any _ (w.heap.size + 1) (led f zs) _ ho (by rw [Hlen.out]; omega)).mono ?_
      rintro e w2 ⟨rfl, cs, hp, hsd, ho2, hg⟩
      have hcl : cs.length = k := by rw [hp.length_eq, Hlen.out]
      have Hdd : Hid (dd cs = sel (imQ f zs) 5) := dd_img hp (by rw [hp.length_eq]; exact hsd) (by
        intro z hz
        simp [led] at hz
        obtain ⟨y, hy, rfl⟩ := hz
        obtain ⟨j, hj, e⟩ := List.getElem_of_mem hy
        have := Hd.out j hj
        rw [gi_eq hj, e] at this
        have h1 := hv.lo y.toNat (by omega) (by omega)
        have h2 := hv.hi y.toNat (by omega) (by omega)
        omega)
      have hbel2 := ho.bel hbel hg (by omega) (by omega)
      have hcl2 : cs.length < 1073741824 := by omega
      clear hp hsd hg ho hcl
      go_wp2_with fail
      refine (compact_all _ (w.heap.size + 1) cs _ ho2 hcl2).mono ?_
      rintro e w3 ⟨v', rfl, ho3, hb3⟩
      rw [Hdd.out] at ho3
      have Ho := Lib.hid (ho3.mono (B' := w.heap.size) (by omega))
      have hbel3 := hbel2.trans (hb3.mono (by omega))
      clear ho2 ho3 hb3 hbel2
      go_wp2
      go_ret
      exact ⟨_, rfl, Ho.out, hbel3⟩
end Go.Proofs.YtchjegojcpbfpaaGreat

namespace Go.Proofs.YtchjegojcpbfpaaGreat
open Go.RowKit
set_option maxRecDepth 100000
def rk (f : M) : Nat := (sel (imQ f (ups f.p.toNat)) 5).length
theorem imQ_ups {f : M} {n : Nat} {k : Nat} : imQ f (ups n) k = true ↔ ∃ i, i < n ∧ f.at i = k := by
  rw [imQ, decide_eq_true_eq, led, List.mem_map]
  constructor
  · rintro ⟨z, hz, e⟩
    obtain ⟨i, hi, rfl⟩ := ups_mem hz
    exact ⟨i, hi, by simpa using e⟩
  · rintro ⟨i, hi, e⟩
    exact ⟨(i : Int), by simp [ups]; exact ⟨i, hi, rfl⟩, by simpa using e⟩
def onesN (m : Nat) : Nat := m % 2 + m / 2 % 2 + m / 4 % 2 + m / 8 % 2 + m / 16 % 2
theorem ones_fin : ∀ m : Fin 32, (sel (bq m.val) 5).length = onesN m.val := by decide +kernel
theorem ones_step {m : Nat} (h : m < 32) : onesN m = m % 2 + onesN (m / 2) := by unfold onesN; omega
theorem ones_le (m : Nat) : onesN m ≤ 5 := by unfold onesN; omega
theorem rk_im {f : M} (hf : Valid f) : onesN (im f f.p.toNat) = rk f := by
  have h5 := hf.p5
  have hlt := im_lt hf f.p.toNat (by have := hf.p1; omega)
  rw [← ones_fin ⟨_, hlt⟩, rk]
  congr 1
  refine sel_ext fun k hk => ?_
  rw [Bool.eq_iff_iff, bq_nat, im_bit, imQ_ups]
  constructor
  · rintro ⟨i, hi, e⟩; exact ⟨i, hi, by have := hf.lo i (by omega) (by omega); omega⟩
  · rintro ⟨i, hi, e⟩; exact ⟨i, hi, by omega⟩
theorem l01Ones_any (m : Nat) (w : World) (hm : m < 32) :
    Calls Tryz.prog 94 #[I m] w fun e w' => e = .returned (I (onesN m)) ∧ w = w' := by
  go_enter Tryz.func94, Tryz.ntmps94
  go_wp2
  go_loop [0, 3] (fun n c => ∃ j k : Nat, n = .int .i64 j ∧ c = .int .i64 k ∧ j < 32 ∧ Hid (k + onesN j = onesN m)) (fun n _ => (intOf n).toNat)
  case atStart => exact ⟨m, 0, rfl, rfl, hm, by show _ = _; omega⟩
  case round =>
    obtain ⟨j, k, rfl, rfl, hj, H⟩ := hrel
    have hk5 : k ≤ 5 := by have := H.out; have := ones_le m; omega
    by_cases hz : 0 < j
    · have hd : (j : Int).tdiv 2 = ((j / 2 : Nat) : Int) := by rw [Int.tdiv_eq_ediv_of_nonneg (by omega)]; omega
      have hr : (j : Int).tmod 2 = ((j % 2 : Nat) : Int) := by rw [Int.tmod_eq_emod_of_nonneg (by omega)]; omega
      have Hs : Hid (k + j % 2 + onesN (j / 2) = onesN m) := by have := H.out; have := ones_step hj; show _ = _; omega
      have hz2 : (0 : Int) < (j : Int) := by omega
      go_wp2
      go_round
      case rel => exact ⟨j / 2, k + j % 2, by go_num, by go_num, by omega, Hs.out⟩
      case measure => simp [intOf]; omega
    · obtain rfl : j = 0 := by omega
      have Hr : Hid ((k : Int) = (onesN m : Int)) := by have := H.out; have h0 : onesN 0 = 0 := rfl; show _ = _; omega
      go_wp2
      go_ret
      exact ⟨ret_int Hr.out, rfl⟩
theorem l01Rank_any (f : M) (w : World) (hf : Valid f) :
    Calls Tryz.prog 53 #[.agg (mc f)] w fun e w' => e = .returned (I (rk f)) ∧ Below w.heap.size w w' := by
  have Hr := Lib.hid (rk_im hf)
  have hlt := im_lt hf f.p.toNat (by have := hf.p1; omega)
  go_enter Tryz.func53, Tryz.ntmps53
  go_wp2_with fail
  refine (l01Image_any f _ hf).mono ?_
  rintro e w1 ⟨rfl, hb⟩
  have hl : Below w.heap.size w w1 := Below.trans (by (repeat (first | with_reducible assumption | with_reducible exact Below.refl _ _ | with_reducible refine Below.setCell ?_ (by first | omega | (simp <;> omega)) _ | with_reducible refine Below.alloc ?_ (by first | omega | (simp <;> omega)) _ | with_reducible refine Below.drew ?_ | with_reducible refine Below.drewN ?_ _))) (hb.mono (by simp <;> omega))
  go_wp2_with fail
  refine (l01Ones_any _ _ hlt).mono ?_
  rintro e w2 ⟨rfl, rfl⟩
  go_wp2
  go_ret
  exact ⟨by rw [Hr.out] <;> rfl, hl⟩
set_option maxHeartbeats 1000000 in
theorem rank_any (f : M) (w : World) (hv : Valid f) :
    Calls Tryz.prog 79 #[.agg (mc f)] w fun e w' => e = .returned (I (rk f)) ∧ Below w.heap.size w w' := by
  have hp1 := hv.p1
  have hp5 := hv.p5
  obtain ⟨n, hn⟩ : ∃ n : Nat, n = f.p.toNat := ⟨_, rfl⟩
  have hfp : f.p = (n : Int) := by omega
  have Hrk : Hid (rk f = (sel (imQ f (ups n)) 5).length) := by show _ = _; rw [hn]; rfl
  have hpt := fun w' => points_any n w' (by omega)
  rw [← hfp] at hpt
  have Hpt := Lib.hid hpt
  have hn1 : 1 ≤ n := by omega
  have hn5 : n ≤ 5 := by omega
  have Hbd : Hid (∀ j, j < (ups n).length → 0 ≤ gi (ups n) j ∧ gi (ups n) j < f.p) := by
    intro j hj
    rw [ups_length] at hj
    rw [gi_ups hj]
    omega
  clear hpt hfp hn
  go_enter Tryz.func79, Tryz.ntmps79
  go_wp2_with fail
  go_region_with (first
    | (go_at_call 68
       refine (Hpt.out _).mono ?_
       rintro e w1 ⟨v, rfl, ho, hb⟩
       have hB1 : Six w1 w.heap.size f := Six.below (Blk.six (Blk.drew (Blk.new w _ _))) hb (by simp)
       have hbel : Below w.heap.size w w1 := Below.trans (by (repeat (first | with_reducible assumption | with_reducible exact Below.refl _ _ | with_reducible refine Below.setCell ?_ (by first | omega | (simp <;> omega)) _ | with_reducible refine Below.alloc ?_ (by first | omega | (simp <;> omega)) _ | with_reducible refine Below.drew ?_ | with_reducible refine Below.drewN ?_ _))) (hb.mono (by simp <;> omega))
       obtain ⟨A, c, hv', hr⟩ := ho.form
       rw [ups_length] at hv'
       subst hv'
       clear hb ho)
    | (go_at_call 115
       refine (image_any f A n c (ups n) _ hv hr (ups_length n) (by omega) Hbd.out).mono ?_
       rintro e w2 ⟨v, rfl, ho, hb⟩
       replace hbel := hbel.trans (hb.mono hbel.size)
       obtain ⟨A2, c2, hv', _⟩ := ho.form
       rw [← Hrk.out] at hv'
       subst hv'
       clear hb ho))
  all_goals
    go_wp2
    go_ret
    exact ⟨rfl, hbel⟩
/-! ### inverses -/
end Go.Proofs.YtchjegojcpbfpaaGreat

namespace Go.Proofs.YtchjegojcpbfpaaGreat
open Go.RowKit
set_option maxRecDepth 100000
set_option linter.unusedSimpArgs false
set_option linter.unusedVariables false
theorem rk_pos {f : M} (hf : Valid f) : 1 ≤ rk f := by
  have h1 := hf.p1
  have h5 := hf.p5
  have h0 := hf.lo 0 (by omega) (by omega)
  have h2 := hf.hi 0 (by omega) (by omega)
  refine List.length_pos_of_mem (a := f.at 0) (sel_mem.2 ⟨⟨(f.at 0).toNat, by omega, by omega⟩, ?_⟩)
  obtain ⟨k, hk⟩ : ∃ k : Nat, f.at 0 = k := ⟨(f.at 0).toNat, by omega⟩
  rw [hk]
  exact imQ_ups.2 ⟨0, by omega, hk⟩
theorem rk_lep {f : M} (hf : Valid f) : rk f ≤ f.p.toNat := by
  have h5 := hf.p5
  unfold rk
  rw [sel_far (n := f.p.toNat) (by omega) fun k hk hk5 => ?_]
  · exact sel_length _ _
  · rw [← Bool.not_eq_true, imQ_ups]
    rintro ⟨i, hi, e⟩
    have := hf.hi i (by omega) (by omega)
    omega
def bump (zs : List Int) (k : Nat) : List Int := zs.set k (gi zs k + 1)
def cntR (n : Nat) (ks : List Nat) : List Int := ks.foldl bump (List.replicate n 0)
theorem bump_len (zs : List Int) (k : Nat) : (bump zs k).length = zs.length := List.length_set ..
theorem foldl_bump : ∀ (ks : List Nat) (zs : List Int), (ks.foldl bump zs).length = zs.length
  | [], _ => rfl
  | k :: ks, zs => by rw [List.foldl_cons, foldl_bump, bump_len]
theorem cntR_len (n : Nat) (ks : List Nat) : (cntR n ks).length = n := by rw [cntR, foldl_bump, List.length_replicate]
theorem foldl_bd : ∀ (ks : List Nat) (zs : List Int) (m : Nat), (∀ k ∈ ks, k < zs.length) → (∀ j, 0 ≤ gi zs j ∧ gi zs j ≤ m) → ∀ j, 0 ≤ gi (ks.foldl bump zs) j ∧ gi (ks.foldl bump zs) j ≤ (m + ks.length : Nat)
  | [], zs, m, _, h, j => h j
  | k :: ks, zs, m, hk, h, j => by
    have h2 := foldl_bd ks (bump zs k) (m + 1) (fun i hi => by rw [bump_len]; exact hk i (List.mem_cons_of_mem _ hi)) (fun i => by
      have h3 := h i
      have h4 := h k
      unfold bump
      rw [gi_set (hk k (List.mem_cons_self ..))]
      split <;> omega) j
    rw [List.foldl_cons, List.length_cons]
    omega
theorem cntR_bd {n : Nat} {ks : List Nat} (h : ∀ k ∈ ks, k < n) (j : Nat) : 0 ≤ gi (cntR n ks) j ∧ gi (cntR n ks) j ≤ ks.length := by
  have := foldl_bd ks (List.replicate n 0) 0 (by simpa using h) (fun j => by
    have : gi (List.replicate n (0 : Int)) j = 0 := by
      unfold gi
      rw [List.getD_eq_getElem?_getD, List.getElem?_replicate]
      split <;> rfl
    omega) j
  unfold cntR
  omega
theorem cntR_take {n : Nat} {ks : List Nat} {q : Nat} (h : q < ks.length) : cntR n (ks.take (q + 1)) = (cntR n (ks.take q)).set (ks.getD q 0) (gi (cntR n (ks.take q)) (ks.getD q 0) + 1) := by
  rw [List.take_add_one, List.getElem?_eq_getElem h, List.getD_eq_getElem?_getD, List.getElem?_eq_getElem h]
  unfold cntR
  rw [List.foldl_append]; rfl
theorem take_lt {n : Nat} {ks : List Nat} (h : ∀ q, q < ks.length → ks.getD q 0 < n) (q : Nat) : ∀ k ∈ ks.take q, k < n := fun k hk => by
  obtain ⟨i, hi, e⟩ := List.getElem_of_mem (List.mem_of_mem_take hk)
  have := h i hi
  rw [List.getD_eq_getElem?_getD, List.getElem?_eq_getElem hi] at this
  rw [← e]; exact this
def srR (ms : List M) : List Int := if elC ms [] = 0 then cntR (gm ms 0).p.toNat ((elR ms []).map fun f => rk f - 1) else []
theorem srR_out {ms : List M} (hc : elC ms [] ≠ 0) : srR ms = [] := if_neg hc
theorem srR_in {ms E : List M} {ps : Met} (hE : El ms [] E ps) (hc : elC ms [] = 0) : ∃ (pn : Nat) (ks : List Nat), (gm ms 0).p = pn ∧ 1 ≤ pn ∧ pn ≤ 5 ∧ Hid (srR ms = cntR pn ks) ∧ Hid (ks.length = E.length) ∧
    Hid (∀ q, q < E.length → Valid (gm E q) ∧ ((rk (gm E q) : Nat) : Int) = (ks.getD q 0 : Nat) + 1 ∧ ks.getD q 0 < pn) := by
  have h1 := hE.p1
  have h5 := hE.p5
  refine ⟨(gm ms 0).p.toNat, E.map fun f => rk f - 1, by omega, by omega, by omega, ?_, ?_, ?_⟩
  · show _ = _; unfold srR; rw [if_pos hc, hE.r]
  · show _ = _; rw [List.length_map]
  · intro q hq
    obtain ⟨hv, hp⟩ := hE.mnd.ok _ (gm_mem hq)
    have h2 := rk_pos hv
    have h3 := rk_lep hv
    have e : (E.map fun f => rk f - 1).getD q 0 = rk (gm E q) - 1 := by
      rw [List.getD_eq_getElem?_getD, List.getElem?_map, List.getElem?_eq_getElem hq, gm_eq hq]; rfl
    rw [e]
    refine ⟨hv, by omega, ?_⟩
    rw [hp] at h3
    omega
theorem srR_len (ms : List M) : (srR ms).length ≤ 5 := by
  by_cases hc : elC ms [] = 0
  · obtain ⟨E, ps, hE⟩ := elC_el hc
    obtain ⟨pn, ks, _, _, h5, hR, _⟩ := srR_in hE hc
    rw [hR.out, cntR_len]; exact h5
  · rw [srR_out hc]; simp
set_option maxHeartbeats 1000000 in
theorem SpecSR_any (A : Option Addr) (n c : Nat) (ms : List M) (w : World) (hx : RdM w w.heap.size A ms) (hn : ms.length = n) (hb : n < 1073741824) :
    Calls Tryz.prog 39 #[.slice A n c] w (RetSI (srR ms) (elC ms []) w) := by
  have Hx := Lib.hid hx
  have Hn := Lib.hid hn
  clear hx hn
  by_cases hc : elC ms [] = 0
  · obtain ⟨E, ps, hE⟩ := elC_el hc
    have hlen := hE.len
    have hpos := hE.pos
    have hn1 := hE.n1
    have hl1 : 0 < n := by have := Hn.out; omega
    obtain ⟨pn, ks, hpn, hp1, hp5, HR, Hks, HK⟩ := srR_in hE hc
    have HE := Lib.hid hE
    have Hc := Lib.hid hc
    have Hpn := Lib.hid hpn
    obtain ⟨b0, off0, rfl, hbl, _⟩ := RdM.at_ Hx.out (k := 0) hn1
    obtain ⟨i, hi, hz0, hz1, hz2⟩ := info_parts infoI
    clear hE hc hpn hn1
    go_enter Tryz.func39, Tryz.ntmps39
    go_wp2_with fail
    refine (l02Elements_any (some ⟨b0, off0, none⟩) none n c 0 0 ms [] _ Hx.out Rd.nil_ Hn.out rfl hb (by decide)).mono ?_
    rintro e w1 ⟨A', c', rfl, hr, hb1⟩
    rw [HE.out.r] at hr ⊢
    rw [Hc.out]
    obtain ⟨b, off, rfl, hbb, _⟩ := RdM.at_ hr hpos
    obtain ⟨x0, _⟩ := (RdM.six (Rd.below Hx.out hb1) (k := 0) (by rw [Hn.out]; exact hl1)).1
    rw [Nat.zero_mul, Nat.add_zero, Hpn.out] at x0
    have Hr := Lib.hid hr
    have Hb1 := Lib.hid hb1
    have hszw := hb1.size
    obtain ⟨N, hN⟩ : ∃ N, E.length = N := ⟨_, rfl⟩
    rw [hN] at hlen hpos HK Hks ⊢
    have HN := Lib.hid hN
    clear hr hb1 hN
    go_wp2_with (at_make; refine wpList_make_full _ rfl _ _ _ rfl w1.heap.size 2 i (.int .i64 0) 1 Tryz.underlying39 hi hz0 hz1 .i64 .i64 _ _ pn rfl rfl rfl rfl (by rw [hz2]; omega) (by unfold maxLen; omega) (Nat.le_refl _) ?_; intro w2 hown hgr)
    have Hm : Hid (OwI 2 w2 w1.heap.size (.slice (some ⟨w1.heap.size, 0, none⟩) pn pn) (cntR pn (ks.take 0))) := madeI hown
    have Hbe : Hid (Below w1.heap.size w1 w2) := (Below.refl _ _).grown hgr (Nat.le_refl _) (fun k hk => by cases hk)
    clear hown hgr hi hz0 hz1 hz2 x0
    go_loopw [7] (fun i wr => ∃ q : Nat, i = .int .i64 q ∧ q ≤ N ∧ Below w1.heap.size w1 wr ∧ OwI 2 wr w1.heap.size (.slice (some ⟨w1.heap.size, 0, none⟩) pn pn) (cntR pn (ks.take q))) (fun i _ => N - (intOf i).toNat)
    case atStart => exact ⟨0, rfl, by omega, Hbe.out, Hm.out⟩
    case round =>
      clear Hbe Hm
      obtain ⟨q, rfl, hq, hb', ho⟩ := hrel
      have Hb := Lib.hid hb'
      have Ho := Lib.hid ho
      clear hb' ho
      by_cases hqN : q < N
      · have hqi : (q : Int) < (N : Int) := by omega
        obtain ⟨hv, hrk, hkp⟩ := HK.out q hqN
        have hbd := cntR_bd (take_lt (fun j hj => (HK.out j (by rw [← Hks.out]; exact hj)).2.2) q) (ks.getD q 0)
        have hct := cntR_take (n := pn) (ks := ks) (q := q) (by rw [Hks.out]; exact hqN)
        have htl : (ks.take q).length ≤ 300 := by have := List.length_take_le q ks; omega
        have hlc := cntR_len pn (ks.take q)
        have H6 := (RdM.six (Rd.more (Rd.below Hr.out Hb.out) Hb.out.size) (k := q) (by rw [HN.out]; exact hqN)).1
        obtain ⟨z, hzz⟩ : ∃ z, z = gm E q := ⟨_, rfl⟩
        obtain ⟨k, hkk⟩ : ∃ k, k = ks.getD q 0 := ⟨_, rfl⟩
        obtain ⟨C, hC⟩ : ∃ C, C = cntR pn (ks.take q) := ⟨_, rfl⟩
        rw [← hzz] at H6 hv hrk
        rw [← hkk] at hrk hkp hbd hct
        rw [← hC] at hbd hct hlc Ho
        obtain ⟨x, hx⟩ : ∃ x, x = gi C k := ⟨_, rfl⟩
        rw [← hx] at hbd hct
        obtain ⟨hx0, hx1⟩ := hbd
        have hx3 : x ≤ 300 := by omega
        have Hct := Lib.hid hct
        have Hx' := Lib.hid hx
        have Hlc := Lib.hid hlc
        have Hrk := Lib.hid hrk
        obtain ⟨x0, x1, x2, x3, x4, x5⟩ := H6
        clear hzz hkk hC hx hct hlc hx1 htl hrk
        go_wp2_with fail
        refine (l01Rank_any z wr hv).mono ?_
        rintro e w3 ⟨rfl, hb3⟩
        rw [Hrk.out]
        have Hb3 := Lib.hid (Hb.out.trans (hb3.mono Hb.out.size))
        have hki : (k : Int) < (pn : Int) := by omega
        obtain ⟨g, c', he, hgB, hgl, e1, z1, hs⟩ := (Ho.out.below hb3 (Nat.le_refl _)).spot (k := k) (by rw [Hlc.out]; exact hkp)
        rw [Hlc.out] at he
        injection he with he1 _ he2
        injection he1 with he1
        injection he1 with he1
        subst he1 he2
        rw [← Hx'.out] at e1
        have Ho5 : Hid (OwI 2 (w3.setCell ⟨w1.heap.size, k, none⟩ (I (x + 1))) w1.heap.size (.slice (some ⟨w1.heap.size, 0, none⟩) pn pn) (cntR pn (ks.take (q + 1)))) := by
          show OwI _ _ _ _ _
          rw [Hct.out]
          exact hs (x + 1)
        have Hb5 : Hid (Below w1.heap.size w1 (w3.setCell ⟨w1.heap.size, k, none⟩ (I (x + 1)))) := Hb3.out.setCell (by exact hgB) _
        clear hs hb3 x0 x1 x2 x3 x4 x5 Ho Hb
        go_wp2_with fail
        go_roundw
        case rel => exact ⟨q + 1, by go_num, by omega, Hb5.out, Ho5.out⟩
        case measure => simp [intOf]; omega
      · obtain rfl : q = N := by omega
        have hqi : ¬ ((q : Int) < (q : Int)) := by omega
        have htk : ks.take q = ks := List.take_of_length_le (by rw [Hks.out]; exact Nat.le_refl _)
        rw [htk, ← HR.out] at Ho
        have Hl : Hid ((srR ms).length = pn) := by show _ = _; rw [HR.out, cntR_len]
        have Hbe := Lib.hid (Hb1.out.trans (Hb.out.mono hszw))
        clear htk
        go_wp2_with fail
        go_ret2
        exact .mk _ _ (by rw [Hl.out, Hc.out] <;> rfl) Ho.out.rdA Hbe.out
  · have hR := srR_out (ms := ms) hc
    have HR := Lib.hid hR
    have hne : (elC ms [] != 0) = true := by simpa using hc
    clear hc hR
    go_enter Tryz.func39, Tryz.ntmps39
    go_wp2_with fail
    refine (l02Elements_any A none n c 0 0 ms [] _ Hx.out Rd.nil_ Hn.out rfl hb (by decide)).mono ?_
    rintro e w1 ⟨A', c', rfl, hr, hb1⟩
    clear hr
    go_wp2
    go_ret2
    exact .mk none 0 (by rw [HR.out] <;> rfl) (by rw [HR.out]; exact Rd.nil_) hb1
set_option maxHeartbeats 1000000 in
theorem ImplSR_any (A : Option Addr) (n c : Nat) (ms : List M) (w : World) (hx : RdM w w.heap.size A ms) (hn : ms.length = n) (hA : A = none → n = 0 ∧ c = 0) (hb : n < 536870912) :
    Calls Tryz.prog 38 #[.slice A n c] w (RetI (srR ms) (elC ms []) w) := by
  have Hx := Lib.hid hx
  have Hn := Lib.hid hn
  have HA := Lib.hid hA
  have hcc := monC_nil ms
  clear hx hn hA
  by_cases hc : elC ms [] = 0
  · obtain ⟨E, ps, hE⟩ := elC_el hc
    have hlen := hE.len
    have hpos := hE.pos
    have hn1 := hE.n1
    have hl1 : 0 < n := by have := Hn.out; omega
    obtain ⟨pn, ks, hpn, hp1, hp5, HR, Hks, HK⟩ := srR_in hE hc
    have HE := Lib.hid hE
    rw [hc] at hcc
    have Hc := Lib.hid hc
    have Hcc := Lib.hid hcc
    have Hpn := Lib.hid hpn
    obtain ⟨b0, off0, rfl, hbl, _⟩ := RdM.at_ Hx.out (k := 0) hn1
    obtain ⟨i, hi, hz0, hz1, hz2⟩ := info_parts infoI
    clear hE hc hcc hpn hn1
    go_enter Tryz.func38, Tryz.ntmps38
    go_wp2_with fail
    refine (monoidOf_any (some ⟨b0, off0, none⟩) none n c 0 0 ms [] _ Hx.out Rd.nil_ Hn.out rfl HA.out (fun _ => ⟨rfl, rfl⟩) (by omega)).mono ?_
    rintro e w1 ⟨r, v, rfl, hb1, hr0, hs⟩
    obtain ⟨g0, rfl, hM, _⟩ := hs ps HE.out.clo Hcc.out
    obtain ⟨_, ev, wv, pl, vs, hMo, _, hO, _⟩ := hM
    rw [← HE.out.eq] at hO
    obtain ⟨gE, cE, rfl⟩ := hO.some_ hpos
    obtain ⟨N, hN⟩ : ∃ N, E.length = N := ⟨_, rfl⟩
    rw [hN] at hlen hpos HK Hks hMo
    have HN := Lib.hid hN
    rw [Hcc.out]
    have cm := hMo.c0
    have lm0 := World.block_lt_of_cell? w1 ⟨g0, 0, none⟩ cm
    obtain ⟨x0, _⟩ := (RdM.six (Rd.below Hx.out hb1) (k := 0) (by rw [Hn.out]; exact hl1)).1
    rw [Nat.zero_mul, Nat.add_zero, Hpn.out] at x0
    have Hr := Lib.hid hO.rd
    have Hb1 := Lib.hid hb1
    have hszw := hb1.size
    clear hMo hO hb1 hs hr0 hN
    go_wp2_with (at_make; refine wpList_make_full _ rfl _ _ _ rfl w1.heap.size 2 i (.int .i64 0) 1 Tryz.underlying39 hi hz0 hz1 .i64 .i64 _ _ pn rfl rfl rfl rfl (by rw [hz2]; omega) (by unfold maxLen; omega) (Nat.le_refl _) ?_; intro w2 hown hgr; have hbe : Below w1.heap.size w1 w2 := (Below.refl _ _).grown hgr (Nat.le_refl _) (fun k hk => by cases hk); have cm2 := (hbe.cell (p := ⟨g0, 0, none⟩) lm0).trans cm)
    have Hm : Hid (OwI 2 w2 w1.heap.size (.slice (some ⟨w1.heap.size, 0, none⟩) pn pn) (cntR pn (ks.take 0))) := madeI hown
    have Hbe := Lib.hid hbe
    clear hown hgr hi hz0 hz1 hz2 x0 cm hbe
    go_loopw [29] (fun i wr => ∃ q : Nat, i = .int .i64 q ∧ q ≤ N ∧ Below w1.heap.size w1 wr ∧ OwI 2 wr w1.heap.size (.slice (some ⟨w1.heap.size, 0, none⟩) pn pn) (cntR pn (ks.take q))) (fun i _ => N - (intOf i).toNat)
    case atStart => exact ⟨0, rfl, by omega, Hbe.out, Hm.out⟩
    case round =>
      clear Hbe Hm cm2
      obtain ⟨q, rfl, hq, hb', ho⟩ := hrel
      have Hb := Lib.hid hb'
      have Ho := Lib.hid ho
      clear hb' ho
      by_cases hqN : q < N
      · have hqi : (q : Int) < (N : Int) := by omega
        obtain ⟨hv, hrk, hkp⟩ := HK.out q hqN
        have hbd := cntR_bd (take_lt (fun j hj => (HK.out j (by rw [← Hks.out]; exact hj)).2.2) q) (ks.getD q 0)
        have hct := cntR_take (n := pn) (ks := ks) (q := q) (by rw [Hks.out]; exact hqN)
        have htl : (ks.take q).length ≤ 300 := by have := List.length_take_le q ks; omega
        have hlc := cntR_len pn (ks.take q)
        have H6 := (RdM.six (Rd.more (Rd.below Hr.out Hb.out) Hb.out.size) (k := q) (by rw [HN.out]; exact hqN)).1
        rw [Nat.zero_add] at H6
        obtain ⟨z, hzz⟩ : ∃ z, z = gm E q := ⟨_, rfl⟩
        obtain ⟨k, hkk⟩ : ∃ k, k = ks.getD q 0 := ⟨_, rfl⟩
        obtain ⟨C, hC⟩ : ∃ C, C = cntR pn (ks.take q) := ⟨_, rfl⟩
        rw [← hzz] at H6 hv hrk
        rw [← hkk] at hrk hkp hbd hct
        rw [← hC] at hbd hct hlc Ho
        obtain ⟨x, hx⟩ : ∃ x, x = gi C k := ⟨_, rfl⟩
        rw [← hx] at hbd hct
        obtain ⟨hx0, hx1⟩ := hbd
        have hx3 : x ≤ 300 := by omega
        have Hct := Lib.hid hct
        have Hx' := Lib.hid hx
        have Hlc := Lib.hid hlc
        have Hrk := Lib.hid hrk
        obtain ⟨x0, x1, x2, x3, x4, x5⟩ := H6
        obtain ⟨wa, hwa⟩ : ∃ wa, wa = wr.alloc (.cells (mc z) 31) := ⟨_, rfl⟩
        have hba : Below wr.heap.size wr wa := by rw [hwa]; exact (Below.refl _ _).alloc (Nat.le_refl _) _
        have Hwa := Lib.hid hwa
        have Hba := Lib.hid hba
        clear hzz hkk hC hx hct hlc hx1 htl hrk hwa hba
        go_wp2_with fail
        rw [← Hwa.out]
        refine (rank_any z wa hv).mono ?_
        rintro e w3 ⟨rfl, hb3'⟩
        have hb3 := Hba.out.trans (hb3'.mono Hba.out.size)
        rw [Hrk.out]
        have Hb3 := Lib.hid (Hb.out.trans (hb3.mono Hb.out.size))
        have hki : (k : Int) < (pn : Int) := by omega
        obtain ⟨g, c', he, hgB, hgl, e1, z1, hs⟩ := (Ho.out.below hb3 (Nat.le_refl _)).spot (k := k) (by rw [Hlc.out]; exact hkp)
        rw [Hlc.out] at he
        injection he with he1 _ he2
        injection he1 with he1
        injection he1 with he1
        subst he1 he2
        rw [← Hx'.out] at e1
        have Ho5 : Hid (OwI 2 (w3.setCell ⟨w1.heap.size, k, none⟩ (I (x + 1))) w1.heap.size (.slice (some ⟨w1.heap.size, 0, none⟩) pn pn) (cntR pn (ks.take (q + 1)))) := by
          show OwI _ _ _ _ _
          rw [Hct.out]
          exact hs (x + 1)
        have Hb5 : Hid (Below w1.heap.size w1 (w3.setCell ⟨w1.heap.size, k, none⟩ (I (x + 1)))) := Hb3.out.setCell (by exact hgB) _
        clear hs hb3 hb3' x0 x1 x2 x3 x4 x5 Ho Hb Hba Hwa
        go_wp2_with fail
        go_roundw
        case rel => exact ⟨q + 1, by go_num, by omega, Hb5.out, Ho5.out⟩
        case measure => simp [intOf]; omega
      · obtain rfl : q = N := by omega
        have hqi : ¬ ((q : Int) < (q : Int)) := by omega
        have htk : ks.take q = ks := List.take_of_length_le (by rw [Hks.out]; exact Nat.le_refl _)
        rw [htk, ← HR.out] at Ho
        have Hbe := Lib.hid (Hb1.out.trans (Hb.out.mono hszw))
        clear htk
        go_wp2_with fail
        go_ret2
        exact .mk _ (by rw [Hc.out] <;> rfl) (Ho.out.mono hszw) Hbe.out
  · have hR := srR_out hc
    have HR := Lib.hid hR
    have Hcc := Lib.hid hcc
    have hne : (elC ms [] != 0) = true := by simpa using hc
    clear hc hcc hR
    go_enter Tryz.func38, Tryz.ntmps38
    go_wp2_with fail
    refine (monoidOf_any A none n c 0 0 ms [] _ Hx.out Rd.nil_ Hn.out rfl HA.out (fun _ => ⟨rfl, rfl⟩) (by omega)).mono ?_
    rintro e w1 ⟨r, v, rfl, hb1, hr0, hs⟩
    rw [Hcc.out]
    have Hb1 := Lib.hid hb1
    clear hs hb1 hr0
    go_wp2
    go_ret2
    exact .mk _ rfl (by rw [HR.out]; exact OwI.nil_) Hb1.out
end Go.Proofs.YtchjegojcpbfpaaGreat

namespace Go.Proofs.YtchjegojcpbfpaaGreat
open Go.RowKit
set_option maxRecDepth 100000
def wordB (n : Nat) (us : List Int) : Bool := decide (us.length ≤ 100) && us.all fun z => inR z 0 ((n : Int) - 1)
theorem wordB_iff {n : Nat} {us : List Int} : wordB n us = true ↔ us.length ≤ 100 ∧ ∀ j, j < us.length → inR (gi us j) 0 ((n : Int) - 1) = true := by
  unfold wordB
  rw [Bool.and_eq_true, decide_eq_true_eq, List.all_eq_true]
  constructor
  · rintro ⟨h1, h2⟩; exact ⟨h1, fun j hj => h2 _ (gi_mem hj)⟩
  · rintro ⟨h1, h2⟩
    refine ⟨h1, fun x hx => ?_⟩
    obtain ⟨j, hj, rfl⟩ := List.getElem_of_mem hx
    have := h2 j hj
    rwa [gi_eq hj] at this
theorem isWord1_any (z : Int) (q : Nat) (A : Option Addr) (n c : Nat) (w : World) (hq : w.cell? ⟨q, 0, none⟩ = some (.slice A n c)) (hn : n < 1073741824) :
    Calls Tryz.prog 120 #[I z, .pointer (some ⟨q, 0, none⟩)] w fun e w' => e = .returned (.bool (!inR z 0 ((n : Int) - 1))) ∧ Below w.heap.size w w' := by
  have hw : IntKind.i64.wrap ((n : Int) - 1) = (n : Int) - 1 := IntWalk.i64_in _ ⟨by omega, by omega⟩
  go_enter Tryz.func120, Tryz.ntmps120
  go_wp2_with fail
  refine (within_any _ _ _ _).mono ?_
  rintro e w2 ⟨rfl, rfl⟩
  go_wp2
  go_ret
  exact ⟨ret_bool (by simp), Below.refl _ _⟩
def Outs (q B : Nat) (w0 : World) (zs : List Int) (p : Int → Bool) : Prop :=
  ∀ w' z, Below B w0 w' → z ∈ zs → Calls Tryz.prog 120 #[I z, .pointer (some ⟨q, 0, none⟩)] w' fun e w'' => e = .returned (.bool (p z)) ∧ Below w'.heap.size w' w''
abbrev outer (q : Nat) : Value := .func (.func 120) #[] #[.pointer (some ⟨q, 0, none⟩)]
theorem indexW_any (A : Option Addr) (n c q B : Nat) (zs : List Int) (p : Int → Bool) (w0 w : World) (hx : RdI w w.heap.size A zs) (hn : zs.length = n) (hb : n < 1073741824) (hd : Outs q B w0 zs p) (hw : Below B w0 w) (hBw : B ≤ w.heap.size) :
    Calls Tryz.prog 130 #[.slice A n c, outer q] w fun e w' => e = .returned (I (idxF p zs)) ∧ Below w.heap.size w w' := by
  have Hn := Lib.hid hn
  have Hx := Lib.hid hx
  clear hn hx
  go_enter Tryz.func130, Tryz.ntmps130
  go_wp2
  go_loopw [8] (fun i wr => ∃ k : Nat, k ≤ n ∧ i = .int .i64 k ∧ Hid (∀ j, j < k → p (gi zs j) = false) ∧ Below w.heap.size w wr) (fun i _ => n - (intOf i).toNat)
  case atStart => exact ⟨0, by omega, rfl, fun j hj => absurd hj (by omega), by (repeat (first | with_reducible assumption | with_reducible exact Below.refl _ _ | with_reducible refine Below.setCell ?_ (by first | omega | (simp <;> omega)) _ | with_reducible refine Below.alloc ?_ (by first | omega | (simp <;> omega)) _ | with_reducible refine Below.drew ?_ | with_reducible refine Below.drewN ?_ _))⟩
  case round =>
    obtain ⟨k, hk, rfl, hg, hbel⟩ := hrel
    by_cases hlt : k < n
    · obtain ⟨b, off, rfl, hbb, c1⟩ := RdI.at_ (Hx.out.below hbel) (k := k) (by rw [Hn.out]; exact hlt)
      have hcall := hd wr (gi zs k) (hw.trans (hbel.mono hBw)) (gi_mem (by rw [Hn.out]; exact hlt))
      have Hc := Lib.hid hcall
      clear hcall
      go_wp2_with fail
      refine Hc.out.mono ?_
      rintro e w2 ⟨rfl, hb2⟩
      replace hbel := hbel.trans (hb2.mono hbel.size)
      clear hb2 c1
      cases hp : p (gi zs k)
      · have Hr : Hid (∀ j, j < k + 1 → p (gi zs j) = false) := by
          intro j hj
          by_cases e : j = k
          · subst e; exact hp
          · exact hg.out j (by omega)
        go_wp2
        go_roundw
        case rel => exact ⟨k + 1, by omega, by go_num, Hr.out, hbel⟩
        case measure => simp [intOf]; omega
      · have Hr : Hid (idxF p zs = k) := idxF_found (by rw [Hn.out]; exact hlt) hp hg.out
        go_wp2
        go_ret
        exact ⟨ret_int Hr.out.symm, hbel⟩
    · have Hr : Hid (idxF p zs = -1) := idxF_none fun j hj => hg.out j (by have := Hn.out; omega)
      go_wp2
      go_ret
      exact ⟨ret_int Hr.out.symm, hbel⟩
theorem containsW_any (A : Option Addr) (n c q B : Nat) (zs : List Int) (p : Int → Bool) (w0 w : World) (hx : RdI w w.heap.size A zs) (hn : zs.length = n) (hb : n < 1073741824) (hd : Outs q B w0 zs p) (hw : Below B w0 w) (hBw : B ≤ w.heap.size) :
    Calls Tryz.prog 119 #[.slice A n c, outer q] w fun e w' => e = .returned (.bool (decide (0 ≤ idxF p zs))) ∧ Below w.heap.size w w' := by
  have Hn := Lib.hid hn
  have Hx := Lib.hid hx
  have Hd := Lib.hid hd
  have Hw := Lib.hid hw
  clear hn hx hd hw
  go_enter Tryz.func119, Tryz.ntmps119
  go_wp2_with fail
  refine (indexW_any A n c q B zs p w0 _ Hx.out Hn.out hb Hd.out Hw.out hBw).mono ?_
  rintro e w1 ⟨rfl, hb1⟩
  go_wp2
  go_ret
  exact ⟨ret_bool (by simp), hb1⟩
theorem isWord_any (A A2 : Option Addr) (n c m d : Nat) (us : List Int) (w : World) (hx : RdI w w.heap.size A2 us) (hm : us.length = m) (hn : n < 1073741824) (hb : m < 1073741824) :
    Calls Tryz.prog 85 #[.slice A n c, .slice A2 m d, .int .i64 100] w fun e w' => e = .returned (.bool (wordB n us)) ∧ Below w.heap.size w w' := by
  have Hm := Lib.hid hm
  have Hx := Lib.hid hx
  clear hm hx
  by_cases h : m ≤ 100
  · have hle : (m : Int) ≤ 100 := by omega
    have Ho : Hid (∀ w0 : World, w0.cell? ⟨w.heap.size, 0, none⟩ = some (.slice A n c) → w.heap.size < w0.heap.size → Outs w.heap.size w0.heap.size w0 us (fun z => !inR z 0 ((n : Int) - 1))) := by
      intro w0 h0 hl w' z hb' hz
      exact isWord1_any z w.heap.size A n c w' ((hb'.cell (p := ⟨w.heap.size, 0, none⟩) hl).trans h0) hn
    have Hr : Hid ((!decide (0 ≤ idxF (fun z => !inR z 0 ((n : Int) - 1)) us)) = wordB n us) := by
      show _ = _
      rw [Bool.eq_iff_iff, wordB_iff, Bool.not_eq_true', decide_eq_false_iff_not]
      constructor
      · intro hneg
        refine ⟨by have := Hm.out; omega, fun j hj => ?_⟩
        rcases idxF_cases (fun z => !inR z 0 ((n : Int) - 1)) us with h1 | ⟨k, h1, _⟩
        · have := idxF_keep h1
          rw [keepF, List.filter_eq_self] at this
          simpa using this _ (gi_mem hj)
        · omega
      · rintro ⟨_, h2⟩ h3
        rcases idxF_cases (fun z => !inR z 0 ((n : Int) - 1)) us with h1 | ⟨k, h1, hk, hp, _⟩
        · omega
        · rw [h2 k hk] at hp; cases hp
    go_enter Tryz.func85, Tryz.ntmps85
    go_wp2_with fail
    refine (containsW_any A2 m d w.heap.size _ us _ _ _ (Rd.more (Rd.alloc Hx.out (Nat.le_refl _) _) (by simp)) Hm.out hb (Ho.out _ ((Blk.new _ _ _).cell 0) (by simp)) (Below.refl _ _) (Nat.le_refl _)).mono ?_
    rintro e w1 ⟨rfl, hb1⟩
    have hbel : Below w.heap.size w w1 := Below.trans (by (repeat (first | with_reducible assumption | with_reducible exact Below.refl _ _ | with_reducible refine Below.setCell ?_ (by first | omega | (simp <;> omega)) _ | with_reducible refine Below.alloc ?_ (by first | omega | (simp <;> omega)) _ | with_reducible refine Below.drew ?_ | with_reducible refine Below.drewN ?_ _))) (hb1.mono (by simp))
    clear hb1
    go_wp2
    go_ret
    exact ⟨ret_bool (by rw [← Hr.out]), hbel⟩
  · have hle : ¬ (m : Int) ≤ 100 := by omega
    have Hr : Hid (wordB n us = false) := by
      show _ = _
      rw [Bool.eq_false_iff]
      intro ht
      have := (wordB_iff.1 ht).1
      have := Hm.out
      omega
    go_enter Tryz.func85, Tryz.ntmps85
    go_wp2
    go_ret
    exact ⟨ret_bool Hr.out.symm, by (repeat (first | with_reducible assumption | with_reducible exact Below.refl _ _ | with_reducible refine Below.setCell ?_ (by first | omega | (simp <;> omega)) _ | with_reducible refine Below.alloc ?_ (by first | omega | (simp <;> omega)) _ | with_reducible refine Below.drew ?_ | with_reducible refine Below.drewN ?_ _))⟩
end Go.Proofs.YtchjegojcpbfpaaGreat

namespace Go.Proofs.YtchjegojcpbfpaaGreat
open Go.RowKit
set_option maxRecDepth 100000
theorem prd_take {gens : List M} {n : Int} {us : List Int} {k : Nat} (hk : k < us.length) : prd gens n (us.take (k + 1)) = mul (prd gens n (us.take k)) (gm gens (gi us k).toNat) := by
  rw [List.take_add_one, List.getElem?_eq_getElem hk, gi_eq hk]
  exact prd_snoc _ _
theorem prd_ok {gens : List M} {n : Int} (h1 : 1 ≤ n) (h5 : n ≤ 5) (hG : Pts n gens) {us : List Int} (hu : ∀ j, j < us.length → inR (gi us j) 0 ((gens.length : Int) - 1) = true) : ∀ k, k ≤ us.length → Valid (prd gens n (us.take k)) ∧ (prd gens n (us.take k)).p = n
  | 0, _ => ⟨Valid.one h1 h5, rfl⟩
  | k + 1, h => by
    have ih := prd_ok h1 h5 hG hu k (by omega)
    have hr := inR_true.1 (hu k (by omega))
    have hm : gm gens (gi us k).toNat ∈ gens := by rw [gm_eq (by omega)]; exact List.getElem_mem _
    rw [prd_take (by omega)]
    exact ⟨Valid.mul ih.1 (hG _ hm).1 (by rw [ih.2, (hG _ hm).2]), ih.2⟩
theorem codeL_pts {ms xs : List M} (h : codeL ms xs = 0) : 1 ≤ (gm ms 0).p ∧ (gm ms 0).p ≤ 5 ∧ Pts (gm ms 0).p ms ∧ Pts (gm ms 0).p xs ∧ 1 ≤ ms.length ∧ ms.length ≤ 6 := by
  obtain ⟨h1, h2, h3⟩ := codeL_zero.1 h
  have h4 := inR_true.1 h2
  rw [List.all_eq_true] at h1 h3
  have key : ∀ f, f ∈ ms ++ xs → Valid f ∧ f.p = (gm ms 0).p := fun f hf => ⟨(isMap_iff f).1 (h1 f hf), of_decide_eq_true (h3 f hf)⟩
  have h0 : gm ms 0 ∈ ms := by rw [gm_eq (by omega)]; exact List.getElem_mem _
  have hv := (key _ (List.mem_append_left _ h0)).1
  exact ⟨hv.p1, hv.p5, fun f hf => key f (List.mem_append_left _ hf), fun f hf => key f (List.mem_append_right _ hf), by omega, by omega⟩
theorem mapOf_any (A A2 : Option Addr) (n c m d : Nat) (ms : List M) (us : List Int) (w : World) (hx : RdM w w.heap.size A ms) (hy : RdI w w.heap.size A2 us) (hn : ms.length = n) (hm : us.length = m) (hn1 : 1 ≤ n) (hb : n < 1073741824) (hbm : m < 1073741824)
    (h1 : 1 ≤ (gm ms 0).p) (h5 : (gm ms 0).p ≤ 5) (hG : Pts (gm ms 0).p ms) (hu : ∀ j, j < us.length → inR (gi us j) 0 ((ms.length : Int) - 1) = true) :
    Calls Tryz.prog 86 #[.slice A n c, .slice A2 m d] w fun e w' => e = .returned (.agg (mc (prd ms (gm ms 0).p us))) ∧ Below w.heap.size w w' := by
  have Hn := Lib.hid hn
  have Hm := Lib.hid hm
  have Hx := Lib.hid hx
  have Hy := Lib.hid hy
  have HG := Lib.hid hG
  have Hu := Lib.hid hu
  obtain ⟨b, off, rfl, hbb, s0⟩ := hx.at_ (k := 0) (by omega)
  have c0 := s0.1
  have hpos : (0 : Int) < (n : Int) := by omega
  have hpos' : 0 < n := by omega
  simp only [Nat.zero_mul, Nat.add_zero] at c0
  have Hok := Lib.hid (prd_ok h1 h5 hG hu)
  clear hn hm hx hy hG hu s0
  go_enter Tryz.func86, Tryz.ntmps86
  go_wp2_with fail
  refine (identity_any (gm ms 0).p _ h1 h5).mono ?_
  rintro e w1 ⟨rfl, hb1⟩
  have hB0 : Blk w1 w.heap.size 31 (mc M0) := Blk.below (Blk.new w _ _) hb1 (by simp)
  have hbel : Below w.heap.size w w1 := Below.trans (by (repeat (first | with_reducible assumption | with_reducible exact Below.refl _ _ | with_reducible refine Below.setCell ?_ (by first | omega | (simp <;> omega)) _ | with_reducible refine Below.alloc ?_ (by first | omega | (simp <;> omega)) _ | with_reducible refine Below.drew ?_ | with_reducible refine Below.drewN ?_ _))) (hb1.mono (by simp))
  have hlt0 := hB0.lt
  clear hb1
  go_wp2_with fail
  go_loopw [15] (fun i wr => ∃ k : Nat, k ≤ m ∧ i = .int .i64 k ∧ Blk wr w.heap.size 31 (mc M0) ∧ Blk wr w1.heap.size 31 (mc (prd ms (gm ms 0).p (us.take k))) ∧ Below w.heap.size w wr) (fun i _ => m - (intOf i).toNat)
  case atStart => exact ⟨0, by omega, rfl, hB0.alloc _, Blk.new _ _ _, hbel.alloc hbel.size _⟩
  case round =>
    clear hB0 hbel
    obtain ⟨k, hk, rfl, hB0, hB1, hbel⟩ := hrel
    by_cases hlt : k < m
    · obtain ⟨b2, off2, rfl, hbb2, d0⟩ := RdI.at_ (Rd.below Hy.out hbel) (k := k) (by rw [Hm.out]; exact hlt)
      have hr := inR_true.1 (Hu.out k (by rw [Hm.out]; exact hlt))
      rw [Hn.out] at hr
      have hr1 := hr.1
      have hr2 : gi us k < (n : Int) := by omega
      obtain ⟨b3, off3, he, _, s3⟩ := RdM.at_ (Rd.below Hx.out hbel) (k := (gi us k).toNat) (by rw [Hn.out]; omega)
      injection he with he
      injection he with e1 e2 _
      subst e1 e2
      obtain ⟨hv, _⟩ := Hok.out k (by rw [Hm.out]; exact hk)
      have Hp : Hid (prd ms (gm ms 0).p (us.take (k + 1)) = mul (prd ms (gm ms 0).p (us.take k)) (gm ms (gi us k).toNat)) := prd_take (by rw [Hm.out]; exact hlt)
      obtain ⟨f, hf⟩ : ∃ f, f = prd ms (gm ms 0).p (us.take k) := ⟨_, rfl⟩
      rw [← hf] at hB1 hv Hp
      have hlt1 := hB1.lt
      have HS : Hid (Six wr.drew w1.heap.size f ∧ SixAt wr.drew b (off + (gi us k).toNat * 6) (gm ms (gi us k).toNat) ∧ Blk wr.drew w.heap.size 31 (mc M0) ∧ Blk wr.drew w1.heap.size 31 (mc f) ∧ Below w.heap.size w wr.drew) := ⟨hB1.six, s3, hB0, hB1, hbel.drew⟩
      clear hB0 hB1 hbel s3 c0 hf
      go_wp2_with fail
      refine wp_region_last [] rfl (by kernel_rfl) (by kernel_rfl) (by kernel_rfl) (by kernel_rfl)
        (fun w' => Six w' w1.heap.size f ∧ SixAt w' b (off + (gi us k).toNat * 6) (gm ms (gi us k).toNat) ∧ Blk w' w.heap.size 31 (mc M0) ∧ Blk w' w1.heap.size 31 (mc f) ∧ Below w.heap.size w w')
        (fun w' => Blk w' w.heap.size 31 (mc M0) ∧ Blk w' w1.heap.size 31 (mc (mul f (gm ms (gi us k).toNat))) ∧ Below w.heap.size w w') _
        [.agg (mc f), .slice (some ⟨b, off, none⟩) n c, I (gi us k), .pointer (some ⟨b, off + (gi us k).toNat * 6, none⟩), .agg (mc (gm ms (gi us k).toNat)), .agg (mc (mul f (gm ms (gi us k).toNat))), undef]
        (by simp only [putAll, List.setIfInBounds_toArray, List.set_cons_succ, List.set_cons_zero]; rfl) HS.out 6 _ rfl rfl ?hop ?hst ?hQ
      case hop =>
        refine FixBL.toL (fun w' w'' hS hb => ⟨hS.1.below hb hS.1.lt, hS.2.1.below hb hS.2.1.lt, hS.2.2.1.below hb hS.2.2.1.lt, hS.2.2.2.1.below hb hS.2.2.2.1.lt, hS.2.2.2.2.trans (hb.mono hS.2.2.2.2.size)⟩) _ _ ?_
        refine ⟨.inr ?_, .inr ?_, .inr ?_, .inr ?_, .inr ?_, .inr ?_, .inl rfl, trivial⟩
        · (with_reducible refine FixB.of ?_ ?_; rfl; intro w' hS; have s0 := hS.1; have s1 := hS.2.1; clear hS; unfold Oper.wp; go_simp; first | done | exact Below.refl _ _)
        · (with_reducible refine FixB.of ?_ ?_; rfl; intro w' hS; have s0 := hS.1; have s1 := hS.2.1; clear hS; unfold Oper.wp; go_simp; first | done | exact Below.refl _ _)
        · (with_reducible refine FixB.of ?_ ?_; rfl; intro w' hS; have s0 := hS.1; have s1 := hS.2.1; clear hS; unfold Oper.wp; go_simp; first | done | exact Below.refl _ _)
        · (with_reducible refine FixB.of ?_ ?_; rfl; intro w' hS; have s0 := hS.1; have s1 := hS.2.1; clear hS; unfold Oper.wp; go_simp; first | done | exact Below.refl _ _)
        · (with_reducible refine FixB.of ?_ ?_; rfl; intro w' hS; have s0 := hS.1; have s1 := hS.2.1; clear hS; unfold Oper.wp; go_simp; first | done | exact Below.refl _ _)
        · (with_reducible refine FixB.of ?_ ?_; rfl; intro w' hS; have s3 := Lib.hid hS; unfold Oper.wp; clear hS; go_simp; refine (times_any f (gm ms (gi us k).toNat) _ hv).mono ?_; rintro e w1 ⟨rfl, hb⟩; exact ⟨rfl, hb⟩)
      case hst =>
        refine ⟨rfl, fun w' hS => ?_⟩
        have s3 := Lib.hid hS
        have d := hS.2.2.2.1.six
        have z := hS.2.2.2.1.fr6
        clear hS
        unfold Oper.wp
        go_simp
        exact ⟨s3.out.2.2.1.far6 (by omega) _, s3.out.2.2.2.1.st6 _, below_st6 s3.out.2.2.2.2 (by omega) _⟩
      case hQ =>
        intro w' hS
        have Hs := Lib.hid hS
        rw [← Hp.out] at Hs
        clear hS HS
        go_wp2
        go_roundw
        case rel => exact ⟨k + 1, by omega, by go_num, Hs.out.1, Hs.out.2.1, Hs.out.2.2⟩
        case measure => simp [intOf]; omega
    · obtain rfl : k = m := by omega
      have e : us.take k = us := by rw [← Hm.out, List.take_length]
      rw [e] at hB1
      obtain ⟨d0, d1, d2, d3, d4, d5⟩ := hB1.six
      obtain ⟨e0, e1, e2, e3, e4, e5⟩ := hB0.six
      obtain ⟨z0, z1, z2, z3, z4, z5⟩ := hB0.fr6
      go_wp2
      refine bodyPost_ret (v := .agg (mc (prd ms (gm ms 0).p us))) ?_ rfl ⟨rfl, below_st6 hbel (Nat.le_refl _) _⟩
      simp [results, Tryz.results86, go_sem, *]
def mwR (ms : List M) (us : List Int) : M := if codeL ms [] = 0 then (if wordB ms.length us then prd ms (gm ms 0).p us else M0) else M0
def mwC (ms : List M) (us : List Int) : Int := if codeL ms [] = 0 then (if wordB ms.length us then 0 else 2) else codeL ms []
theorem mw_bad {ms : List M} {us : List Int} (h : codeL ms [] ≠ 0) : mwR ms us = M0 ∧ mwC ms us = codeL ms [] := by simp [mwR, mwC, h]
theorem mw_rng {ms : List M} {us : List Int} (h : codeL ms [] = 0) (hw : wordB ms.length us = false) : mwR ms us = M0 ∧ mwC ms us = 2 := by simp [mwR, mwC, h, hw]
theorem mw_good {ms : List M} {us : List Int} (h : codeL ms [] = 0) (hw : wordB ms.length us = true) : mwR ms us = prd ms (gm ms 0).p us ∧ mwC ms us = 0 := by simp [mwR, mwC, h, hw]
theorem ImplMapOfWord_any (A A2 : Option Addr) (n c m d : Nat) (ms : List M) (us : List Int) (w : World) (hx : RdM w w.heap.size A ms) (hy : RdI w w.heap.size A2 us) (hn : ms.length = n) (hm : us.length = m) (hA : A = none → n = 0 ∧ c = 0) (hb : n < 1073741824) (hbm : m < 1073741824) :
    Calls Tryz.prog 43 #[.slice A n c, .slice A2 m d] w fun e w' => e = .returned (.tuple #[.agg (mc (mwR ms us)), I (mwC ms us)]) ∧ Below w.heap.size w w' := by
  have Hn := Lib.hid hn
  have Hm := Lib.hid hm
  have Hx := Lib.hid hx
  have Hy := Lib.hid hy
  have HA := Lib.hid hA
  clear hn hm hx hy hA
  by_cases hc : codeL ms [] = 0
  · have hcb : (codeL ms [] != 0) = false := by simp [hc]
    obtain ⟨q1, q2, q3, _, q5, q6⟩ := codeL_pts hc
    have Q3 := Lib.hid q3
    have Hc := Lib.hid hc
    clear hc q3
    cases hw : wordB ms.length us
    · have Hr := Lib.hid (mw_rng Hc.out hw)
      have Hw := Lib.hid hw
      clear hw
      go_enter Tryz.func43, Tryz.ntmps43
      go_wp2_with fail
      refine (listCode_any A none n c 0 0 ms [] _ (Rd.more (Rd.alloc Hx.out (Nat.le_refl _) _) (by simp)) Rd.nil_ Hn.out rfl HA.out (fun _ => ⟨rfl, rfl⟩) (by omega)).mono ?_
      rintro e w1 ⟨rfl, hb1⟩
      have hB : Blk w1 w.heap.size 31 (mc M0) := Blk.below (Blk.new w _ _) hb1 (by simp)
      have hbel : Below w.heap.size w w1 := Below.trans (by (repeat (first | with_reducible assumption | with_reducible exact Below.refl _ _ | with_reducible refine Below.setCell ?_ (by first | omega | (simp <;> omega)) _ | with_reducible refine Below.alloc ?_ (by first | omega | (simp <;> omega)) _ | with_reducible refine Below.drew ?_ | with_reducible refine Below.drewN ?_ _))) (hb1.mono (by simp))
      clear hb1
      go_wp2_with fail
      refine (isWord_any A A2 n c m d us _ (Rd.more (Rd.below Hy.out hbel) hbel.size) Hm.out hb hbm).mono ?_
      rintro e w2 ⟨rfl, hb2⟩
      rw [← Hn.out, Hw.out]
      replace hB := hB.below hb2 hB.lt
      replace hbel := hbel.trans (hb2.mono hbel.size)
      clear hb2
      obtain ⟨e0, e1, e2, e3, e4, e5⟩ := hB.six
      obtain ⟨z0, z1, z2, z3, z4, z5⟩ := hB.fr6
      go_wp2
      refine bodyPost_ret (v := .tuple #[.agg (mc M0), I 2]) ?_ rfl ⟨by rw [Hr.out.1, Hr.out.2], by (repeat (first | with_reducible assumption | with_reducible exact Below.refl _ _ | with_reducible refine Below.setCell ?_ (by first | omega | (simp <;> omega)) _ | with_reducible refine Below.alloc ?_ (by first | omega | (simp <;> omega)) _ | with_reducible refine Below.drew ?_ | with_reducible refine Below.drewN ?_ _))⟩
      simp [results, Tryz.results43, go_sem, *]
      try exact ⟨rfl, rfl, rfl, rfl, rfl, rfl⟩
    · have Hr := Lib.hid (mw_good Hc.out hw)
      have Hw := Lib.hid hw
      have Hu := Lib.hid (wordB_iff.1 hw).2
      clear hw
      go_enter Tryz.func43, Tryz.ntmps43
      go_wp2_with fail
      refine (listCode_any A none n c 0 0 ms [] _ (Rd.more (Rd.alloc Hx.out (Nat.le_refl _) _) (by simp)) Rd.nil_ Hn.out rfl HA.out (fun _ => ⟨rfl, rfl⟩) (by omega)).mono ?_
      rintro e w1 ⟨rfl, hb1⟩
      have hB : Blk w1 w.heap.size 31 (mc M0) := Blk.below (Blk.new w _ _) hb1 (by simp)
      have hbel : Below w.heap.size w w1 := Below.trans (by (repeat (first | with_reducible assumption | with_reducible exact Below.refl _ _ | with_reducible refine Below.setCell ?_ (by first | omega | (simp <;> omega)) _ | with_reducible refine Below.alloc ?_ (by first | omega | (simp <;> omega)) _ | with_reducible refine Below.drew ?_ | with_reducible refine Below.drewN ?_ _))) (hb1.mono (by simp))
      clear hb1
      go_wp2_with fail
      refine (isWord_any A A2 n c m d us _ (Rd.more (Rd.below Hy.out hbel) hbel.size) Hm.out hb hbm).mono ?_
      rintro e w2 ⟨rfl, hb2⟩
      rw [← Hn.out, Hw.out]
      replace hB := hB.below hb2 hB.lt
      replace hbel := hbel.trans (hb2.mono hbel.size)
      clear hb2
      rw [Hn.out]
      go_wp2_with fail
      refine (mapOf_any A A2 n c m d ms us _ (Rd.more (Rd.below Hx.out hbel) hbel.size) (Rd.more (Rd.below Hy.out hbel) hbel.size) Hn.out Hm.out (by have := Hn.out; omega) hb hbm q1 q2 Q3.out Hu.out).mono ?_
      rintro e w3 ⟨rfl, hb2⟩
      replace hB := hB.below hb2 hB.lt
      replace hbel := hbel.trans (hb2.mono hbel.size)
      clear hb2
      obtain ⟨e0, e1, e2, e3, e4, e5⟩ := hB.six
      obtain ⟨z0, z1, z2, z3, z4, z5⟩ := hB.fr6
      go_wp2
      refine bodyPost_ret (v := .tuple #[.agg (mc (prd ms (gm ms 0).p us)), I 0]) ?_ rfl ⟨by rw [Hr.out.1, Hr.out.2], by (repeat (first | with_reducible assumption | with_reducible exact Below.refl _ _ | with_reducible refine Below.setCell ?_ (by first | omega | (simp <;> omega)) _ | with_reducible refine Below.alloc ?_ (by first | omega | (simp <;> omega)) _ | with_reducible refine Below.drew ?_ | with_reducible refine Below.drewN ?_ _))⟩
      simp [results, Tryz.results43, go_sem, *]
  · have hcb : (codeL ms [] != 0) = true := by simp [hc]
    have Hr := Lib.hid (mw_bad (us := us) hc)
    clear hc
    go_enter Tryz.func43, Tryz.ntmps43
    go_wp2_with fail
    refine (listCode_any A none n c 0 0 ms [] _ (Rd.more (Rd.alloc Hx.out (Nat.le_refl _) _) (by simp)) Rd.nil_ Hn.out rfl HA.out (fun _ => ⟨rfl, rfl⟩) (by omega)).mono ?_
    rintro e w1 ⟨rfl, hb1⟩
    have hB : Blk w1 w.heap.size 31 (mc M0) := Blk.below (Blk.new w _ _) hb1 (by simp)
    have hbel : Below w.heap.size w w1 := Below.trans (by (repeat (first | with_reducible assumption | with_reducible exact Below.refl _ _ | with_reducible refine Below.setCell ?_ (by first | omega | (simp <;> omega)) _ | with_reducible refine Below.alloc ?_ (by first | omega | (simp <;> omega)) _ | with_reducible refine Below.drew ?_ | with_reducible refine Below.drewN ?_ _))) (hb1.mono (by simp))
    clear hb1
    obtain ⟨e0, e1, e2, e3, e4, e5⟩ := hB.six
    obtain ⟨z0, z1, z2, z3, z4, z5⟩ := hB.fr6
    go_wp2
    refine bodyPost_ret (v := .tuple #[.agg (mc M0), I (codeL ms [])]) ?_ rfl ⟨by rw [Hr.out.1, Hr.out.2], by (repeat (first | with_reducible assumption | with_reducible exact Below.refl _ _ | with_reducible refine Below.setCell ?_ (by first | omega | (simp <;> omega)) _ | with_reducible refine Below.alloc ?_ (by first | omega | (simp <;> omega)) _ | with_reducible refine Below.drew ?_ | with_reducible refine Below.drewN ?_ _))⟩
    simp [results, Tryz.results43, go_sem, *]
    try exact ⟨rfl, rfl, rfl, rfl, rfl, rfl⟩
theorem wordB_no {n : Nat} {us : List Int} {k : Nat} (hk : k < us.length) (h : inR (gi us k) 0 ((n : Int) - 1) = false) : wordB n us = false := by
  rw [Bool.eq_false_iff]
  intro ht
  have := (wordB_iff.1 ht).2 k hk
  rw [h] at this; cases this
theorem SpecMapOfWord_any (A A2 : Option Addr) (n c m d : Nat) (ms : List M) (us : List Int) (w : World) (hx : RdM w w.heap.size A ms) (hy : RdI w w.heap.size A2 us) (hn : ms.length = n) (hm : us.length = m) (hb : n < 1073741824) (hbm : m < 1073741824) :
    Calls Tryz.prog 44 #[.slice A n c, .slice A2 m d] w fun e w' => e = .returned (.tuple #[.agg (mc (mwR ms us)), I (mwC ms us)]) ∧ Below w.heap.size w w' := by
  have Hn := Lib.hid hn
  have Hm := Lib.hid hm
  have Hx := Lib.hid hx
  have Hy := Lib.hid hy
  clear hn hm hx hy
  by_cases hc : codeL ms [] = 0
  · have hcb : (codeL ms [] != 0) = false := by simp [hc]
    obtain ⟨q1, q2, q3, _, q5, q6⟩ := codeL_pts hc
    have Q3 := Lib.hid q3
    have Hc := Lib.hid hc
    clear hc q3
    by_cases h100 : m ≤ 100
    · have hle : ¬ (100 : Int) < (m : Int) := by omega
      have hn1 : 1 ≤ n := by rw [← Hn.out]; exact q5
      have hpos : (0 : Int) < (n : Int) := by omega
      have hpos' : 0 < n := by omega
      have hwn : IntKind.i64.wrap ((n : Int) - 1) = (n : Int) - 1 := IntWalk.i64_in _ ⟨by omega, by omega⟩
      obtain ⟨b, off, rfl, hbb, s0⟩ := Hx.out.at_ (k := 0) (by rw [Hn.out]; omega)
      have c0 := s0.1
      simp only [Nat.zero_mul, Nat.add_zero] at c0
      clear s0
      go_enter Tryz.func44, Tryz.ntmps44
      go_wp2_with fail
      refine (l02Given_any (some ⟨b, off, none⟩) none n c 0 0 ms [] _ (Rd.more (Rd.alloc Hx.out (Nat.le_refl _) _) (by simp)) Rd.nil_ Hn.out rfl hb (by omega)).mono ?_
      rintro e w1 ⟨rfl, hb1⟩
      have hB : Blk w1 w.heap.size 31 (mc M0) := Blk.below (Blk.new w _ _) hb1 (by simp)
      have hbel : Below w.heap.size w w1 := Below.trans (by (repeat (first | with_reducible assumption | with_reducible exact Below.refl _ _ | with_reducible refine Below.setCell ?_ (by first | omega | (simp <;> omega)) _ | with_reducible refine Below.alloc ?_ (by first | omega | (simp <;> omega)) _ | with_reducible refine Below.drew ?_ | with_reducible refine Below.drewN ?_ _))) (hb1.mono (by simp))
      have d0 := (hbel.cell (p := ⟨b, off, none⟩) hbb).trans c0
      clear hb1
      go_wp2_with fail
      refine (l01Identity_any (gm ms 0).p _ q1 q2).mono ?_
      rintro e w2 ⟨rfl, hb2⟩
      replace hB := hB.below hb2 hB.lt
      replace hbel := hbel.trans (hb2.mono hbel.size)
      have hlt0 := hB.lt
      clear hb2 d0
      go_wp2_with fail
      go_loopw [8] (fun i wr => ∃ k : Nat, k ≤ m ∧ i = .int .i64 k ∧ Hid (∀ j, j < k → inR (gi us j) 0 ((n : Int) - 1) = true) ∧ Blk wr w.heap.size 31 (mc M0) ∧ Blk wr w2.heap.size 31 (mc (prd ms (gm ms 0).p (us.take k))) ∧ Below w.heap.size w wr) (fun i _ => m - (intOf i).toNat)
      case atStart => exact ⟨0, by omega, rfl, fun j hj => absurd hj (by omega), hB.alloc _, Blk.new _ _ _, hbel.alloc hbel.size _⟩
      case round =>
        clear hB hbel
        obtain ⟨k, hk, rfl, hg, hB0, hB1, hbel⟩ := hrel
        by_cases hlt : k < m
        · obtain ⟨b2, off2, rfl, hbb2, e0⟩ := RdI.at_ (Rd.below Hy.out hbel) (k := k) (by rw [Hm.out]; exact hlt)
          cases hin : inR (gi us k) 0 ((n : Int) - 1)
          · have Hr := Lib.hid (mw_rng Hc.out (wordB_no (k := k) (by rw [Hm.out]; exact hlt) (by rw [Hn.out]; exact hin)))
            obtain ⟨y0, y1, y2, y3, y4, y5⟩ := hB0.six
            obtain ⟨z0, z1, z2, z3, z4, z5⟩ := hB0.fr6
            clear hB1 hB0
            go_wp2_with fail
            refine (l01In_any _ _ _ _).mono ?_
            rintro e w3 ⟨rfl, rfl⟩
            rw [hin]
            go_wp2
            refine bodyPost_ret (v := .tuple #[.agg (mc M0), I 2]) ?_ rfl ⟨by rw [Hr.out.1, Hr.out.2], by (repeat (first | with_reducible assumption | with_reducible exact Below.refl _ _ | with_reducible refine Below.setCell ?_ (by first | omega | (simp <;> omega)) _ | with_reducible refine Below.alloc ?_ (by first | omega | (simp <;> omega)) _ | with_reducible refine Below.drew ?_ | with_reducible refine Below.drewN ?_ _))⟩
            simp [results, Tryz.results44, go_sem, *]
            try exact ⟨rfl, rfl, rfl, rfl, rfl, rfl⟩
          · have Hs : Hid (∀ j, j < k + 1 → inR (gi us j) 0 ((n : Int) - 1) = true) := by
              intro j hj
              by_cases e : j = k
              · subst e; exact hin
              · exact hg.out j (by omega)
            have hr := inR_true.1 hin
            have hr1 := hr.1
            have hr2 : gi us k < (n : Int) := by omega
            obtain ⟨b3, off3, he, _, s3⟩ := RdM.at_ (Rd.below Hx.out hbel) (k := (gi us k).toNat) (by rw [Hn.out]; omega)
            injection he with he
            injection he with e1 e2 _
            subst e1 e2
            have hv : Valid (prd ms (gm ms 0).p (us.take k)) := by
              have hl : (us.take k).length = k := by rw [List.length_take, Hm.out]; omega
              have h2 := (prd_ok (us := us.take k) q1 q2 Q3.out (fun j hj => by
                rw [hl] at hj
                have := hg.out j hj
                rw [Hn.out]
                rw [gi_eq (by rw [hl]; exact hj), List.getElem_take, ← gi_eq (by rw [Hm.out]; omega)]
                exact this) k (by omega)).1
              rwa [List.take_of_length_le (by omega)] at h2
            have Hp : Hid (prd ms (gm ms 0).p (us.take (k + 1)) = mul (prd ms (gm ms 0).p (us.take k)) (gm ms (gi us k).toNat)) := prd_take (by rw [Hm.out]; exact hlt)
            obtain ⟨f, hf⟩ : ∃ f, f = prd ms (gm ms 0).p (us.take k) := ⟨_, rfl⟩
            rw [← hf] at hB1 hv Hp
            have hlt1 := hB1.lt
            have i0 : (0 : Int) ≤ (k : Int) := by omega
            have i1 : (k : Int) < (m : Int) := by omega
            go_wp2_with fail
            refine (l01In_any _ _ _ _).mono ?_
            rintro e w3 ⟨rfl, rfl⟩
            rw [hin]
            have HS : Hid (Six wr.drew w2.heap.size f ∧ SixAt wr.drew b (off + (gi us k).toNat * 6) (gm ms (gi us k).toNat) ∧ wr.drew.cell? ⟨b2, off2 + k, none⟩ = some (I (gi us k)) ∧ Blk wr.drew w.heap.size 31 (mc M0) ∧ Blk wr.drew w2.heap.size 31 (mc f) ∧ Below w.heap.size w wr.drew) := ⟨hB1.six, s3, e0, hB0, hB1, hbel.drew⟩
            clear hB0 hB1 hbel s3 c0 hf e0
            go_wp2_with fail
            refine wp_region_last [] rfl (by kernel_rfl) (by kernel_rfl) (by kernel_rfl) (by kernel_rfl)
              (fun w' => Six w' w2.heap.size f ∧ SixAt w' b (off + (gi us k).toNat * 6) (gm ms (gi us k).toNat) ∧ w'.cell? ⟨b2, off2 + k, none⟩ = some (I (gi us k)) ∧ Blk w' w.heap.size 31 (mc M0) ∧ Blk w' w2.heap.size 31 (mc f) ∧ Below w.heap.size w w')
              (fun w' => Blk w' w.heap.size 31 (mc M0) ∧ Blk w' w2.heap.size 31 (mc (mul f (gm ms (gi us k).toNat))) ∧ Below w.heap.size w w') _
              [.agg (mc f), .slice (some ⟨b, off, none⟩) n c, .slice (some ⟨b2, off2, none⟩) m d, I k, .pointer (some ⟨b2, off2 + k, none⟩), I (gi us k), .pointer (some ⟨b, off + (gi us k).toNat * 6, none⟩), .agg (mc (gm ms (gi us k).toNat)), .agg (mc (mul f (gm ms (gi us k).toNat))), undef]
              (by simp only [putAll, List.setIfInBounds_toArray, List.set_cons_succ, List.set_cons_zero]; rfl) HS.out 9 _ rfl rfl ?hop ?hst ?hQ
            case hop =>
              refine FixBL.toL (fun w' w'' hS hb => ⟨hS.1.below hb hS.1.lt, hS.2.1.below hb hS.2.1.lt, (hb.cell (p := ⟨b2, off2 + k, none⟩) (show b2 < w'.heap.size by have := hS.2.2.2.2.2.size; omega)).trans hS.2.2.1, hS.2.2.2.1.below hb hS.2.2.2.1.lt, hS.2.2.2.2.1.below hb hS.2.2.2.2.1.lt, hS.2.2.2.2.2.trans (hb.mono hS.2.2.2.2.2.size)⟩) _ _ ?_
              refine ⟨.inr ?_, .inr ?_, .inr ?_, .inr ?_, .inr ?_, .inr ?_, .inr ?_, .inr ?_, .inr ?_, .inl rfl, trivial⟩
              · (with_reducible refine FixB.of ?_ ?_; rfl; intro w' hS; have s0 := hS.1; have s1 := hS.2.1; have s2 := hS.2.2.1; clear hS; unfold Oper.wp; go_simp; first | done | exact Below.refl _ _)
              · (with_reducible refine FixB.of ?_ ?_; rfl; intro w' hS; have s0 := hS.1; have s1 := hS.2.1; have s2 := hS.2.2.1; clear hS; unfold Oper.wp; go_simp; first | done | exact Below.refl _ _)
              · (with_reducible refine FixB.of ?_ ?_; rfl; intro w' hS; have s0 := hS.1; have s1 := hS.2.1; have s2 := hS.2.2.1; clear hS; unfold Oper.wp; go_simp; first | done | exact Below.refl _ _)
              · (with_reducible refine FixB.of ?_ ?_; rfl; intro w' hS; have s0 := hS.1; have s1 := hS.2.1; have s2 := hS.2.2.1; clear hS; unfold Oper.wp; go_simp; first | done | exact Below.refl _ _)
              · (with_reducible refine FixB.of ?_ ?_; rfl; intro w' hS; have s0 := hS.1; have s1 := hS.2.1; have s2 := hS.2.2.1; clear hS; unfold Oper.wp; go_simp; first | done | exact Below.refl _ _)
              · (with_reducible refine FixB.of ?_ ?_; rfl; intro w' hS; have s0 := hS.1; have s1 := hS.2.1; have s2 := hS.2.2.1; clear hS; unfold Oper.wp; go_simp; first | done | exact Below.refl _ _)
              · (with_reducible refine FixB.of ?_ ?_; rfl; intro w' hS; have s0 := hS.1; have s1 := hS.2.1; have s2 := hS.2.2.1; clear hS; unfold Oper.wp; go_simp; first | done | exact Below.refl _ _)
              · (with_reducible refine FixB.of ?_ ?_; rfl; intro w' hS; have s0 := hS.1; have s1 := hS.2.1; have s2 := hS.2.2.1; clear hS; unfold Oper.wp; go_simp; first | done | exact Below.refl _ _)
              · (with_reducible refine FixB.of ?_ ?_; rfl; intro w' hS; have s3 := Lib.hid hS; unfold Oper.wp; clear hS; go_simp; refine (l01Times_any f (gm ms (gi us k).toNat) _ hv).mono ?_; rintro e w1 ⟨rfl, hb⟩; exact ⟨rfl, hb⟩)
            case hst =>
              refine ⟨rfl, fun w' hS => ?_⟩
              have s3 := Lib.hid hS
              have d := hS.2.2.2.2.1.six
              have z := hS.2.2.2.2.1.fr6
              clear hS
              unfold Oper.wp
              go_simp
              exact ⟨s3.out.2.2.2.1.far6 (by omega) _, s3.out.2.2.2.2.1.st6 _, below_st6 s3.out.2.2.2.2.2 (by omega) _⟩
            case hQ =>
              intro w' hS
              have Hs2 := Lib.hid hS
              rw [← Hp.out] at Hs2
              clear hS HS
              go_wp2
              go_roundw
              case rel => exact ⟨k + 1, by omega, by go_num, Hs.out, Hs2.out.1, Hs2.out.2.1, Hs2.out.2.2⟩
              case measure => simp [intOf]; omega
        · obtain rfl : k = m := by omega
          have e : us.take k = us := by rw [← Hm.out, List.take_length]
          rw [e] at hB1
          have Hr := Lib.hid (mw_good Hc.out (wordB_iff.2 ⟨by rw [Hm.out]; exact h100, fun j hj => by rw [Hn.out]; exact hg.out j (by rw [Hm.out] at hj; exact hj)⟩))
          obtain ⟨d0, d1, d2, d3, d4, d5⟩ := hB1.six
          obtain ⟨e0, e1, e2, e3, e4, e5⟩ := hB0.six
          obtain ⟨z0, z1, z2, z3, z4, z5⟩ := hB0.fr6
          go_wp2
          refine bodyPost_ret (v := .tuple #[.agg (mc (prd ms (gm ms 0).p us)), I 0]) ?_ rfl ⟨by rw [Hr.out.1, Hr.out.2], below_st6 hbel (Nat.le_refl _) _⟩
          simp [results, Tryz.results44, go_sem, *]
    · have hle : (100 : Int) < (m : Int) := by omega
      have Hr := Lib.hid (mw_rng (us := us) Hc.out (by
        rw [Bool.eq_false_iff]; intro ht
        have := (wordB_iff.1 ht).1
        have := Hm.out
        omega))
      go_enter Tryz.func44, Tryz.ntmps44
      go_wp2_with fail
      refine (l02Given_any A none n c 0 0 ms [] _ (Rd.more (Rd.alloc Hx.out (Nat.le_refl _) _) (by simp)) Rd.nil_ Hn.out rfl hb (by omega)).mono ?_
      rintro e w1 ⟨rfl, hb1⟩
      have hB : Blk w1 w.heap.size 31 (mc M0) := Blk.below (Blk.new w _ _) hb1 (by simp)
      have hbel : Below w.heap.size w w1 := Below.trans (by (repeat (first | with_reducible assumption | with_reducible exact Below.refl _ _ | with_reducible refine Below.setCell ?_ (by first | omega | (simp <;> omega)) _ | with_reducible refine Below.alloc ?_ (by first | omega | (simp <;> omega)) _ | with_reducible refine Below.drew ?_ | with_reducible refine Below.drewN ?_ _))) (hb1.mono (by simp))
      clear hb1
      obtain ⟨e0, e1, e2, e3, e4, e5⟩ := hB.six
      obtain ⟨z0, z1, z2, z3, z4, z5⟩ := hB.fr6
      go_wp2
      refine bodyPost_ret (v := .tuple #[.agg (mc M0), I 2]) ?_ rfl ⟨by rw [Hr.out.1, Hr.out.2], by (repeat (first | with_reducible assumption | with_reducible exact Below.refl _ _ | with_reducible refine Below.setCell ?_ (by first | omega | (simp <;> omega)) _ | with_reducible refine Below.alloc ?_ (by first | omega | (simp <;> omega)) _ | with_reducible refine Below.drew ?_ | with_reducible refine Below.drewN ?_ _))⟩
      simp [results, Tryz.results44, go_sem, *]
      try exact ⟨rfl, rfl, rfl, rfl, rfl, rfl⟩
  · have hcb : (codeL ms [] != 0) = true := by simp [hc]
    have Hr := Lib.hid (mw_bad (us := us) hc)
    clear hc
    go_enter Tryz.func44, Tryz.ntmps44
    go_wp2_with fail
    refine (l02Given_any A none n c 0 0 ms [] _ (Rd.more (Rd.alloc Hx.out (Nat.le_refl _) _) (by simp)) Rd.nil_ Hn.out rfl hb (by omega)).mono ?_
    rintro e w1 ⟨rfl, hb1⟩
    have hB : Blk w1 w.heap.size 31 (mc M0) := Blk.below (Blk.new w _ _) hb1 (by simp)
    have hbel : Below w.heap.size w w1 := Below.trans (by (repeat (first | with_reducible assumption | with_reducible exact Below.refl _ _ | with_reducible refine Below.setCell ?_ (by first | omega | (simp <;> omega)) _ | with_reducible refine Below.alloc ?_ (by first | omega | (simp <;> omega)) _ | with_reducible refine Below.drew ?_ | with_reducible refine Below.drewN ?_ _))) (hb1.mono (by simp))
    clear hb1
    obtain ⟨e0, e1, e2, e3, e4, e5⟩ := hB.six
    obtain ⟨z0, z1, z2, z3, z4, z5⟩ := hB.fr6
    go_wp2
    refine bodyPost_ret (v := .tuple #[.agg (mc M0), I (codeL ms [])]) ?_ rfl ⟨by rw [Hr.out.1, Hr.out.2], by (repeat (first | with_reducible assumption | with_reducible exact Below.refl _ _ | with_reducible refine Below.setCell ?_ (by first | omega | (simp <;> omega)) _ | with_reducible refine Below.alloc ?_ (by first | omega | (simp <;> omega)) _ | with_reducible refine Below.drew ?_ | with_reducible refine Below.drewN ?_ _))⟩
    simp [results, Tryz.results44, go_sem, *]
    try exact ⟨rfl, rfl, rfl, rfl, rfl, rfl⟩
end Go.Proofs.YtchjegojcpbfpaaGreat

namespace Go.Proofs.YtchjegojcpbfpaaGreat
set_option maxRecDepth 100000
def valW (B : Nat) : List Int → Nat
  | [] => 0
  | z :: u => z.toNat * B ^ u.length + valW B u
def repW (v : List Int) : Nat → List Int
  | 0 => []
  | k + 1 => v ++ repW v k
def WdB (B : Nat) (u : List Int) : Prop := ∀ z ∈ u, 0 ≤ z ∧ z < (B : Int)
theorem valW_append {B : Nat} : ∀ u v : List Int, valW B (u ++ v) = valW B u * B ^ v.length + valW B v
  | [], v => by simp [valW]
  | z :: u, v => by
    rw [List.cons_append, valW, valW, valW_append u v, List.length_append, Nat.pow_add, Nat.add_mul, Nat.mul_assoc, Nat.add_assoc]
theorem valW_lt {B : Nat} : ∀ {u : List Int}, WdB B u → valW B u < B ^ u.length
  | [], _ => by simp [valW]
  | z :: u, h => by
    have h1 := h z (by simp)
    have h2 := valW_lt (u := u) fun y hy => h y (by simp [hy])
    rw [valW, List.length_cons, Nat.pow_succ]
    have h3 : (z.toNat + 1) * B ^ u.length ≤ B * B ^ u.length := Nat.mul_le_mul_right _ (by omega)
    rw [Nat.add_mul, Nat.one_mul] at h3
    rw [Nat.mul_comm (B ^ u.length) B]
    omega
theorem valW_inj {B : Nat} : ∀ {u v : List Int}, u.length = v.length → WdB B u → WdB B v → valW B u = valW B v → u = v
  | [], [], _, _, _, _ => rfl
  | [], _ :: _, h, _, _, _ => by simp at h
  | _ :: _, [], h, _, _, _ => by simp at h
  | z :: u, y :: v, hl, hu, hv, e => by
    have hl' : u.length = v.length := by simpa using hl
    have h1 := hu z (by simp)
    have h2 := hv y (by simp)
    have h3 := valW_lt (u := u) fun x hx => hu x (by simp [hx])
    have h4 := valW_lt (u := v) fun x hx => hv x (by simp [hx])
    rw [valW, valW, hl'] at e
    rw [hl'] at h3
    have e1 : z.toNat = y.toNat := by
      have a := congrArg (· / B ^ v.length) e
      have hp : 0 < B ^ v.length := by omega
      rw [Nat.mul_comm z.toNat, Nat.mul_comm y.toNat, Nat.mul_add_div hp, Nat.mul_add_div hp, Nat.div_eq_of_lt h3, Nat.div_eq_of_lt h4] at a
      omega
    rw [e1] at e
    have e2 := valW_inj hl' (fun x hx => hu x (by simp [hx])) (fun x hx => hv x (by simp [hx])) (Nat.add_left_cancel e)
    have e3 : z = y := by omega
    rw [e2, e3]
theorem repW_length (v : List Int) : ∀ k, (repW v k).length = k * v.length
  | 0 => by simp [repW]
  | k + 1 => by rw [repW, List.length_append, repW_length v k, Nat.succ_mul, Nat.add_comm]
theorem WdB.rep {B : Nat} {v : List Int} (h : WdB B v) : ∀ k, WdB B (repW v k)
  | 0 => by intro z hz; simp [repW] at hz
  | k + 1 => by
    intro z hz
    rw [repW, List.mem_append] at hz
    exact hz.elim (h z) (h.rep k z)
structure Best {β : Type} (P : List Int → β) (B : Nat) (w : List Int) : Prop where
  wd : WdB B w
  len : ∀ u, WdB B u → P u = P w → w.length ≤ u.length
  val : ∀ u, WdB B u → P u = P w → u.length = w.length → valW B w ≤ valW B u
section
variable {β : Type} {P : List Int → β} {B : Nat}
theorem Best.some_ {w : List Int} (hw : WdB B w) (hl : ∀ u, WdB B u → P u = P w → w.length ≤ u.length) : ∃ w', Best P B w' ∧ w'.length = w.length ∧ P w' = P w := by
  suffices H : ∀ (n : Nat) (w : List Int), valW B w = n → WdB B w → (∀ u, WdB B u → P u = P w → w.length ≤ u.length) → ∃ w', Best P B w' ∧ w'.length = w.length ∧ P w' = P w from H _ w rfl hw hl
  intro n
  induction n using Nat.strongRecOn with
  | _ n ih =>
    intro w hn hw hl
    by_cases h : ∃ u, WdB B u ∧ P u = P w ∧ u.length = w.length ∧ valW B u < valW B w
    · obtain ⟨u, h1, h2, h3, h4⟩ := h
      obtain ⟨w', a, b, c⟩ := ih _ (hn ▸ h4) u rfl h1 (fun t ht e => by rw [h3]; exact hl t ht (e.trans h2))
      exact ⟨w', a, b.trans h3, c.trans h2⟩
    · exact ⟨w, ⟨hw, hl, fun u h1 h2 h3 => Nat.le_of_not_lt fun h4 => h ⟨u, h1, h2, h3, h4⟩⟩, rfl, rfl⟩
theorem Best.same {v v' : List Int} (h : Best P B v) (h' : Best P B v') (e : P v = P v') : v = v' := by
  have h1 := h.len _ h'.wd e.symm
  have h2 := h'.len _ h.wd e
  have hl : v.length = v'.length := by omega
  have h3 := h.val _ h'.wd e.symm hl.symm
  have h4 := h'.val _ h.wd e hl
  exact valW_inj hl h.wd h'.wd (by omega)
theorem Best.part (hB : 0 < B) (hP : ∀ a v v' b, WdB B a → WdB B v → WdB B v' → WdB B b → P v = P v' → P (a ++ v ++ b) = P (a ++ v' ++ b)) {a v b : List Int} (h : Best P B (a ++ v ++ b)) : Best P B v := by
  have wa : WdB B a := fun z hz => h.wd z (by simp [hz])
  have wv : WdB B v := fun z hz => h.wd z (by simp [hz])
  have wb : WdB B b := fun z hz => h.wd z (by simp [hz])
  have wu : ∀ u, WdB B u → WdB B (a ++ u ++ b) := fun u hu z hz => by
    simp only [List.mem_append] at hz
    rcases hz with (hz | hz) | hz
    · exact wa z hz
    · exact hu z hz
    · exact wb z hz
  refine ⟨wv, fun u hu e => ?_, fun u hu e hl => ?_⟩
  · have := h.len _ (wu u hu) (hP a u v b wa hu wv wb e)
    simp only [List.length_append] at this
    omega
  · have := h.val _ (wu u hu) (hP a u v b wa hu wv wb e) (by simp [hl])
    rw [valW_append, valW_append, valW_append, valW_append, hl] at this
    refine Nat.le_of_not_lt fun hlt => ?_
    have hp : 0 < B ^ b.length := Nat.pow_pos hB
    have h2 : (valW B a * B ^ v.length + valW B u) * B ^ b.length < (valW B a * B ^ v.length + valW B v) * B ^ b.length := Nat.mul_lt_mul_of_pos_right (by omega) hp
    omega
theorem Best.no6 (h6 : ∀ v, WdB B v → ∃ j, j < 6 ∧ P (repW v 6) = P (repW v j)) {v : List Int} (hv : WdB B v) (h : Best P B (repW v 6)) : v.length = 0 := by
  obtain ⟨j, hj, e⟩ := h6 v hv
  have := h.len _ (hv.rep j) e.symm
  rw [repW_length, repW_length] at this
  refine Classical.byContradiction fun hne => ?_
  have h2 : j * v.length < 6 * v.length := Nat.mul_lt_mul_of_pos_right hj (by omega)
  omega
theorem take_rep {s : List Int} {q d : Nat} (h : s.take d = (s.drop q).take d) : ∀ m, m * q ≤ d → s.take ((m + 1) * q) = repW (s.take q) (m + 1)
  | 0, _ => by simp [repW]
  | m + 1, hm => by
    have e : (m + 1 + 1) * q = q + (m + 1) * q := by rw [Nat.succ_mul (m + 1) q]; omega
    have hm' : m * q ≤ d := by rw [Nat.succ_mul] at hm; omega
    have e2 : (s.drop q).take ((m + 1) * q) = s.take ((m + 1) * q) := by
      have a : ((s.drop q).take d).take ((m + 1) * q) = (s.drop q).take ((m + 1) * q) := by rw [List.take_take, Nat.min_eq_left hm]
      have b : (s.take d).take ((m + 1) * q) = s.take ((m + 1) * q) := by rw [List.take_take, Nat.min_eq_left hm]
      rw [← a, ← h, b]
    rw [e, List.take_add, e2, take_rep h m hm']
    rfl
def famW : List (Nat × Nat) := (List.range 55).flatMap fun d => (List.range (d / 5 + 1)).map fun i => (d, i)
theorem famW_nodup : famW.Nodup := by decide +kernel
theorem famW_length : famW.length = 330 := by decide +kernel
theorem famW_ok : ∀ p ∈ famW, p.1 ≤ 54 ∧ p.2 * 5 ≤ p.1 := by decide +kernel
theorem Best.short (hB : 0 < B) (hP : ∀ a v v' b, WdB B a → WdB B v → WdB B v' → WdB B b → P v = P v' → P (a ++ v ++ b) = P (a ++ v' ++ b))
    (h6 : ∀ v, WdB B v → ∃ j, j < 6 ∧ P (repW v 6) = P (repW v j))
    (hn : ∀ L : List β, L.Nodup → (∀ x ∈ L, ∃ u, WdB B u ∧ x = P u) → L.length ≤ 300) {w : List Int} (h : Best P B w) : w.length ≤ 64 := by
  refine Nat.le_of_not_lt fun hlt => ?_
  have hpart : ∀ i d, Best P B ((w.drop i).take d) := fun i d => by
    refine Best.part (a := w.take i) (b := (w.drop i).drop d) hB hP ?_
    rw [List.append_assoc, List.take_append_drop, List.take_append_drop]
    exact h
  have hlen : ∀ p ∈ famW, ((w.drop p.2).take p.1).length = p.1 := fun p hp => by
    have := famW_ok p hp
    rw [List.length_take, List.length_drop]
    omega
  have hstep : ∀ d i j, d ≤ 54 → j * 5 ≤ d → i < j → (w.drop i).take d = (w.drop j).take d → False := fun d i j hd hj hij e => by
    have e2 : (w.drop i).take d = ((w.drop i).drop (j - i)).take d := by rw [List.drop_drop, e]; congr 2; omega
    have e3 := take_rep e2 5 (by omega)
    have h1 := hpart i ((5 + 1) * (j - i))
    rw [e3] at h1
    have h2 := Best.no6 h6 (hpart i (j - i)).wd h1
    rw [List.length_take, List.length_drop] at h2
    omega
  have hL := hn (famW.map fun p => P ((w.drop p.2).take p.1)) ?_ ?_
  · rw [List.length_map, famW_length] at hL
    omega
  · refine List.pairwise_map.2 (List.Pairwise.imp_of_mem (fun {p p'} hp hp' hne e => hne ?_) famW_nodup)
    have hw := Best.same (hpart _ _) (hpart _ _) e
    have l1 := hlen p hp
    have l2 := hlen p' hp'
    rw [hw, l2] at l1
    have k1 := famW_ok p hp
    have k2 := famW_ok p' hp'
    rw [← l1] at hw
    rcases Nat.lt_trichotomy p.2 p'.2 with hc | hc | hc
    · exact (hstep p'.1 p.2 p'.2 k2.1 k2.2 hc hw).elim
    · exact Prod.ext l1.symm hc
    · exact (hstep p'.1 p'.2 p.2 k2.1 (by omega) hc hw.symm).elim
  · intro x hx
    obtain ⟨p, _, rfl⟩ := List.mem_map.1 hx
    exact ⟨_, (hpart _ _).wd, rfl⟩
end
end Go.Proofs.YtchjegojcpbfpaaGreat

namespace Go.Proofs.YtchjegojcpbfpaaGreat
open Go.RowKit
set_option maxRecDepth 100000
/-! ### the queue's order -/
abbrev MonoL (ps : Met) : Prop := ps.Pairwise fun a b => a.2.length ≤ b.2.length
theorem rowC_lvl {f : M} {u : List Int} : ∀ (gs : List M) (k : Nat) (ps ps' : Met), MonoL ps → (∀ q ∈ ps, q.2.length ≤ u.length + 1) → rowC f u gs k ps = some ps' →
    (∃ qs, ps' = ps ++ qs) ∧ MonoL ps' ∧ (∀ q ∈ ps', q.2.length ≤ u.length + 1) ∧ ∀ g ∈ gs, ∃ q ∈ ps', q.1 = mul f g ∧ q.2.length ≤ u.length + 1
  | [], k, ps, ps', hm, ht, e => by
    injection e with e; subst e
    exact ⟨⟨[], by simp⟩, hm, ht, by simp⟩
  | g :: gs, k, ps, ps', hm, ht, e => by
    by_cases hin : mul f g ∈ ps.map (·.1)
    · rw [rowC_in hin] at e
      obtain ⟨⟨qs, rfl⟩, a, b, c⟩ := rowC_lvl gs (k + 1) ps ps' hm ht e
      refine ⟨⟨qs, rfl⟩, a, b, fun x hx => ?_⟩
      rcases List.mem_cons.1 hx with rfl | hx
      · obtain ⟨q, hq, e2⟩ := List.mem_map.1 hin
        exact ⟨q, List.mem_append_left _ hq, e2, ht q hq⟩
      · exact c x hx
    · by_cases hl : ps.length = 300
      · rw [rowC_full hin hl] at e; cases e
      · rw [rowC_new hin hl] at e
        have hm' : MonoL (ps ++ [(mul f g, u ++ [(k : Int)])]) := by
          refine List.pairwise_append.2 ⟨hm, by simp, fun a ha b hb => ?_⟩
          simp at hb; subst hb
          simpa using ht a ha
        have ht' : ∀ q ∈ ps ++ [(mul f g, u ++ [(k : Int)])], q.2.length ≤ u.length + 1 := fun q hq => by
          rcases List.mem_append.1 hq with hq | hq
          · exact ht q hq
          · simp at hq; subst hq; simp
        obtain ⟨⟨qs, rfl⟩, a, b, c⟩ := rowC_lvl gs (k + 1) _ ps' hm' ht' e
        refine ⟨⟨_, List.append_assoc _ _ _⟩, a, b, fun x hx => ?_⟩
        rcases List.mem_cons.1 hx with rfl | hx
        · exact ⟨(mul f x, u ++ [(k : Int)]), by simp, rfl, by simp⟩
        · exact c x hx
theorem MonoL.at_ {ps : Met} (h : MonoL ps) {a b : Nat} (hab : a ≤ b) (hb : b < ps.length) : (pm ps a).2.length ≤ (pm ps b).2.length := by
  rcases Nat.lt_or_ge a b with hlt | hge
  · have := List.pairwise_iff_getElem.1 h a b (by omega) hb hlt
    rw [pm_eq (by omega), pm_eq hb]; exact this
  · obtain rfl : a = b := by omega
    exact Nat.le_refl _
theorem allC_lvl {gens : List M} : ∀ (fuel i : Nat) (ps ps' : Met), i + fuel = 300 → i ≤ ps.length → MonoL ps → (i < ps.length → ∀ q ∈ ps, q.2.length ≤ (pm ps i).2.length + 1) →
    (∀ j, j < i → ∀ g ∈ gens, ∃ q ∈ ps, q.1 = mul (pm ps j).1 g ∧ q.2.length ≤ (pm ps j).2.length + 1) → allC gens fuel i ps = some ps' → ps'.length ≤ 300 →
    ∀ j, j < ps'.length → ∀ g ∈ gens, ∃ q ∈ ps', q.1 = mul (pm ps' j).1 g ∧ q.2.length ≤ (pm ps' j).2.length + 1
  | 0, i, ps, ps', hi, hle, hm, ht, hn, e, hl => by
    injection e with e; subst e
    exact fun j hj => hn j (by omega)
  | fuel + 1, i, ps, ps', hi, hle, hm, ht, hn, e, hl => by
    rw [allC] at e
    by_cases hlt : i < ps.length
    · rw [if_pos hlt] at e
      cases hr : rowC (pm ps i).1 (pm ps i).2 gens 0 ps with
      | none => rw [hr] at e; cases e
      | some ps1 =>
        rw [hr] at e
        obtain ⟨⟨qs, rfl⟩, a, b, c⟩ := rowC_lvl gens 0 ps ps1 hm (ht hlt) hr
        refine allC_lvl fuel (i + 1) _ ps' (by omega) (by simp; omega) a (fun h2 q hq => ?_) (fun j hj g hg => ?_) e hl
        · have h3 := b q hq
          have h4 := a.at_ (Nat.le_succ i) h2
          rw [pm_app hlt] at h4
          have h5 : (pm ps i).2.length ≤ (pm (ps ++ qs) (i + 1)).2.length := h4
          omega
        · by_cases e3 : j = i
          · subst e3; rw [pm_app hlt]; exact c g hg
          · rw [pm_app (by omega)]
            obtain ⟨q, hq, h⟩ := hn j (by omega) g hg
            exact ⟨q, List.mem_append_left _ hq, h⟩
    · rw [if_neg hlt] at e
      injection e with e; subst e
      exact fun j hj => hn j (by omega)
section
variable {gens : List M} {n : Int}
theorem WdB.gm_mem' {u : List Int} (h : WdB gens.length u) {z : Int} (hz : z ∈ u) : gm gens z.toNat ∈ gens := by
  have := h z hz
  rw [gm_eq (by omega)]; exact List.getElem_mem _
theorem clo_min {ps : Met} (h : clo gens n = some ps) : ∀ (m : Nat) (u : List Int), u.length = m → WdB gens.length u → ∃ q ∈ ps, q.1 = prd gens n u ∧ q.2.length ≤ u.length := by
  have hg := (clo_good h).1
  have hnx := allC_lvl 300 0 [(one n, [])] ps rfl (by simp) (by simp) (by simp) (fun j hj => absurd hj (by omega)) h hg.len
  intro m
  induction m with
  | zero =>
    intro u hu _
    obtain rfl := List.eq_nil_of_length_eq_zero hu
    obtain ⟨qs, e, _⟩ := hg.fst
    exact ⟨(one n, []), by rw [e]; simp, rfl, by simp⟩
  | succ m ih =>
    intro u hu hw
    have hne : u ≠ [] := by intro e; rw [e] at hu; simp at hu
    have e := List.dropLast_concat_getLast hne
    obtain ⟨v, z, rfl⟩ : ∃ v z, u = v ++ [z] := ⟨_, _, e.symm⟩
    have hv : v.length = m := by simpa using hu
    obtain ⟨q, hq, e1, e2⟩ := ih v hv fun x hx => hw x (by simp [hx])
    obtain ⟨j, hj, e3⟩ := List.getElem_of_mem hq
    obtain ⟨q', hq', e4, e5⟩ := hnx j hj _ (hw.gm_mem' (z := z) (by simp))
    rw [pm_eq hj, e3] at e4 e5
    refine ⟨q', hq', by rw [prd_snoc, e4, e1], ?_⟩
    simp; omega
theorem fl_mul (hG : Pts n gens) : ∀ (v : List Int) (f : M), WdB gens.length v → Valid f → f.p = n → v.foldl (fun f z => mul f (gm gens z.toNat)) f = mul f (prd gens n v)
  | [], f, _, hf, hp => by
    have := mul_one' hf
    rw [hp] at this
    exact this.symm
  | z :: v, f, hw, hf, hp => by
    have hg := hG _ (hw.gm_mem' (z := z) (by simp))
    have hv : WdB gens.length v := fun x hx => hw x (by simp [hx])
    have e1 : mul (one n) (gm gens z.toNat) = gm gens z.toNat := by have := one_mul' hg.1; rwa [hg.2] at this
    have e2 := fl_mul hG v (mul f (gm gens z.toNat)) hv (Valid.mul hf hg.1 (by rw [hp, hg.2])) hp
    have e3 := fl_mul hG v (gm gens z.toNat) hv hg.1 hg.2
    rw [List.foldl_cons, e2, mul_assoc hf hg.1 (by rw [hp, hg.2])]
    congr 1
    show _ = List.foldl _ _ (z :: v)
    rw [List.foldl_cons, e1, e3]
theorem prdW_ok (h1 : 1 ≤ n) (h5 : n ≤ 5) (hG : Pts n gens) : ∀ (v : List Int), WdB gens.length v → Mon gens n (prd gens n v) := by
  have H : ∀ (v : List Int) (f : M), WdB gens.length v → Mon gens n f → Mon gens n (v.foldl (fun f z => Go.Proofs.YtchjegojcpbfpaaGreat.mul f (gm gens z.toNat)) f) := by
    intro v
    induction v with
    | nil => intro f _ h; exact h
    | cons z v ih => intro f hw h; exact ih _ (fun x hx => hw x (by simp [hx])) (.snoc h (hw.gm_mem' (by simp)))
  exact fun v hw => H v _ hw .one
theorem prdW_app (h1 : 1 ≤ n) (h5 : n ≤ 5) (hG : Pts n gens) {u v : List Int} (hu : WdB gens.length u) (hv : WdB gens.length v) : prd gens n (u ++ v) = mul (prd gens n u) (prd gens n v) := by
  have h := (prdW_ok h1 h5 hG u hu).ok h1 h5 hG
  rw [← fl_mul hG v _ hv h.1 h.2, prd, prd, List.foldl_append]
theorem prdW_rep (h1 : 1 ≤ n) (h5 : n ≤ 5) (hG : Pts n gens) {v : List Int} (hv : WdB gens.length v) : ∀ k, prd gens n (repW v k) = pw (prd gens n v) k
  | 0 => by
    have h := (prdW_ok h1 h5 hG v hv).ok h1 h5 hG
    rw [pw_zero, h.2]; rfl
  | k + 1 => by
    have h := (prdW_ok h1 h5 hG v hv).ok h1 h5 hG
    have e := pw_add h.1 1 k
    rw [pw_one h.1, Nat.add_comm] at e
    rw [repW, prdW_app h1 h5 hG hv (hv.rep k), prdW_rep h1 h5 hG hv k, e]
end
/-! ### the sixth power -/
def quint (a b c d e k : Nat) : Nat := if k = 0 then a else if k = 1 then b else if k = 2 then c else if k = 3 then d else e
def goF (t : Nat → Nat) (k : Nat) : Nat → Nat
  | 0 => k
  | n + 1 => t (goF t k n)
theorem six_pow : ∀ a b c d e : Fin 5, ((List.range 6).any fun j => (List.range 5).all fun k => goF (quint a b c d e) k 6 == goF (quint a b c d e) k j) = true := by decide +kernel
theorem pw_six {f : M} (hf : Valid f) : ∃ j, j < 6 ∧ pw f 6 = pw f j := by
  have hb : ∀ k : Nat, k < 5 → (if (k : Int) < f.p then (f.at k).toNat else 0) < 5 := fun k hk => by
    split
    · rename_i h; have := hf.lo k hk h; have := hf.hi k hk h; have := hf.p5; omega
    · omega
  have h := six_pow ⟨_, hb 0 (by omega)⟩ ⟨_, hb 1 (by omega)⟩ ⟨_, hb 2 (by omega)⟩ ⟨_, hb 3 (by omega)⟩ ⟨_, hb 4 (by omega)⟩
  rw [List.any_eq_true] at h
  obtain ⟨j, hj, h⟩ := h
  rw [List.all_eq_true] at h
  refine ⟨j, List.mem_range.1 hj, ?_⟩
  have hgo : ∀ k : Nat, (k : Int) < f.p → ∀ m, goF (quint (if ((0 : Nat) : Int) < f.p then (f.at 0).toNat else 0) (if ((1 : Nat) : Int) < f.p then (f.at 1).toNat else 0) (if ((2 : Nat) : Int) < f.p then (f.at 2).toNat else 0) (if ((3 : Nat) : Int) < f.p then (f.at 3).toNat else 0) (if ((4 : Nat) : Int) < f.p then (f.at 4).toNat else 0)) k m = go' f k m := fun k hk m => by
    induction m with
    | zero => rfl
    | succ m ih =>
      have h1 := go_lt hf hk m
      have h5 := hf.p5
      rw [goF, ih, go']
      obtain ⟨q, hq⟩ : ∃ q, go' f k m = q := ⟨_, rfl⟩
      rw [hq] at h1 ⊢
      have : q = 0 ∨ q = 1 ∨ q = 2 ∨ q = 3 ∨ q = 4 := by omega
      rcases this with rfl | rfl | rfl | rfl | rfl <;> simp [quint, h1] <;> omega
  refine M.ext5 (by rw [pw_p, pw_p]) fun k hk => ?_
  by_cases hp : (k : Int) < f.p
  · have h2 := h k (List.mem_range.2 hk)
    rw [beq_iff_eq] at h2
    have h3 := hgo k hp 6
    have h4 := hgo k hp j
    rw [pw_go hf hk hp, pw_go hf hk hp, ← h3, ← h4]
    exact congrArg Int.ofNat h2
  · rw [(pw_valid hf 6).out k hk (by rw [pw_p]; omega), (pw_valid hf j).out k hk (by rw [pw_p]; omega)]
theorem clo_short {gens : List M} {n : Int} (h1 : 1 ≤ n) (h5 : n ≤ 5) (hG : Pts n gens) {ps : Met} (h : clo gens n = some ps) : ∀ q ∈ ps, q.2.length ≤ 64 := by
  intro q hq
  have hg := (clo_good h).1
  obtain ⟨e, hw⟩ := hg.wd q hq
  have hw : WdB gens.length q.2 := hw
  by_cases hB : 0 < gens.length
  · have hmin : ∀ u, WdB gens.length u → prd gens n u = prd gens n q.2 → q.2.length ≤ u.length := fun u hu e2 => by
      obtain ⟨q', hq', e3, e4⟩ := clo_min h _ u rfl hu
      rw [e2, ← e] at e3
      obtain ⟨i, hi, ei⟩ := List.getElem_of_mem hq
      obtain ⟨i', hi', ei'⟩ := List.getElem_of_mem hq'
      have hnd := hg.nd
      have : i' = i := by
        have a := (List.getElem_inj (h₀ := by simpa using hi') (h₁ := by simpa using hi) hnd).1 (by simp [ei, ei', e3])
        exact a
      subst this
      rw [ei] at ei'
      rw [ei']; exact e4
    obtain ⟨w, hb, hl, _⟩ := Best.some_ hw hmin
    rw [← hl]
    refine Best.short hB (fun a v v' b ha hv hv' hb e => ?_) (fun v hv => ?_) (fun L hL hx => ?_) hb
    · have wav : WdB gens.length (a ++ v) := fun z hz => (List.mem_append.1 hz).elim (ha z) (hv z)
      have wav' : WdB gens.length (a ++ v') := fun z hz => (List.mem_append.1 hz).elim (ha z) (hv' z)
      rw [prdW_app h1 h5 hG wav hb, prdW_app h1 h5 hG wav' hb, prdW_app h1 h5 hG ha hv, prdW_app h1 h5 hG ha hv', e]
    · obtain ⟨j, hj, e⟩ := pw_six ((prdW_ok h1 h5 hG v hv).ok h1 h5 hG).1
      exact ⟨j, hj, by rw [prdW_rep h1 h5 hG hv, prdW_rep h1 h5 hG hv, e]⟩
    · have := nodup_sub_len hL fun x hx' => by
        obtain ⟨u, hu, rfl⟩ := hx x hx'
        exact (clo_mem h).2 (prdW_ok h1 h5 hG u hu)
      have h3 := hg.len
      rw [List.length_map] at this
      omega
  · have : q.2 = [] := by
      cases hq2 : q.2 with
      | nil => rfl
      | cons z u => have := hw z (by rw [hq2]; simp); omega
    rw [this]; simp
end Go.Proofs.YtchjegojcpbfpaaGreat

namespace Go.Proofs.YtchjegojcpbfpaaGreat
open Go.RowKit
set_option maxRecDepth 100000
set_option linter.unusedSimpArgs false
set_option linter.unusedVariables false
abbrev TB : TypeId := 4
def Bls (w : World) (g n : Nat) (Q : Nat → Bool) : Prop := ∃ cur : Array Value, Blk w g TB cur ∧ cur.size = n ∧ ∀ i, i < n → cur[i]? = some (.bool (Q i))
section
variable {w w' : World} {g n : Nat} {Q Q' : Nat → Bool}
theorem Bls.lt (h : Bls w g n Q) : g < w.heap.size := by obtain ⟨_, h, _⟩ := h; exact h.lt
theorem Bls.below {B : Nat} (h : Bls w g n Q) (hb : Below B w w') (hg : g < B) : Bls w' g n Q := by obtain ⟨c, h, h1⟩ := h; exact ⟨c, h.below hb hg, h1⟩
theorem Bls.grown {row : Option Nat} (h : Bls w g n Q) (hb : w.grownBy w' row) (hg : some g ≠ row) : Bls w' g n Q := by obtain ⟨c, h, h1⟩ := h; exact ⟨c, h.grown hb hg, h1⟩
theorem Bls.cell (h : Bls w g n Q) {i : Nat} (hi : i < n) : w.cell? ⟨g, i, none⟩ = some (.bool (Q i)) := by obtain ⟨c, h, _, h1⟩ := h; rw [h.cell]; exact h1 i hi
theorem Bls.frozen (h : Bls w g n Q) (i : Nat) : w.frozen? ⟨g, i, none⟩ = false := by obtain ⟨c, h, _⟩ := h; exact h.frozen i
theorem Bls.congr (h : Bls w g n Q) (e : ∀ i, i < n → Q i = Q' i) : Bls w g n Q' := by
  obtain ⟨c, h, h1, h2⟩ := h
  exact ⟨c, h, h1, fun i hi => by rw [← e i hi]; exact h2 i hi⟩
theorem Bls.set (h : Bls w g n Q) {i : Nat} (hi : i < n) : Bls (w.setCell ⟨g, i, none⟩ (.bool true)) g n fun a => Q a || decide (a = i) := by
  obtain ⟨c, h, h1, h2⟩ := h
  refine ⟨_, h.set_ _ _, by simpa using h1, fun a ha => ?_⟩
  rw [Array.getElem?_setIfInBounds]
  by_cases e : i = a
  · rw [if_pos e, if_pos (by omega)]
    simp [e]
  · rw [if_neg e]
    rw [h2 a ha]
    have : ¬ a = i := fun h => e h.symm
    simp [this]
end
/-! ### the search -/
def addQ (L : List Nat) (x : Nat) : List Nat := if x ∈ L then L else L ++ [x]
theorem addQ_of {L : List Nat} {x y : Nat} (h : y ∈ L) : y ∈ addQ L x := by unfold addQ; split <;> simp [*]
theorem addQ_in {L : List Nat} {x y : Nat} (h : y ∈ addQ L x) : y ∈ L ∨ y = x := by unfold addQ at h; split at h <;> simp_all
theorem addQ_get {L : List Nat} {x j : Nat} (h : j < L.length) : (addQ L x)[j]? = L[j]? := by unfold addQ; split <;> simp [List.getElem?_append, h]
theorem addQ_nd {L : List Nat} {x : Nat} (h : L.Nodup) : (addQ L x).Nodup := by
  unfold addQ; split
  · exact h
  · rw [List.nodup_append]; exact ⟨h, by simp, by simp; intro a ha e; subst e; contradiction⟩
structure Rch (E ms : List M) (l r : Bool) (i0 : Nat) (L : List Nat) (a q : Nat) : Prop where
  nd : L.Nodup
  ok : ∀ x ∈ L, x < E.length ∧ Rel E l r (gm E i0) (gm E x)
  i0 : i0 ∈ L
  cl : ∀ j x, L[j]? = some x → ∀ i, i < ms.length → (j < a ∨ j = a ∧ i < q) → (l = true → ix E (mul (gm ms i) (gm E x)) ∈ L) ∧ (r = true → ix E (mul (gm E x) (gm ms i)) ∈ L)
theorem Rch.len {E ms : List M} {l r : Bool} {i0 : Nat} {L : List Nat} {a q : Nat} (h : Rch E ms l r i0 L a q) : L.length ≤ E.length := by
  have := nodup_sub_len h.nd (b := List.range E.length) fun x hx => by simpa using (h.ok x hx).1
  simpa using this
set_option maxRecDepth 100000
set_option linter.unusedSimpArgs false
set_option linter.unusedVariables false
section
variable {E ms : List M} {n : Int} {l r : Bool} {i0 a q x : Nat} {L : List Nat}
theorem Rch.start (hm : Mnd n E) (hi : i0 < E.length) : Rch E ms l r i0 [i0] 0 0 :=
  ⟨by simp, fun x hx => by simp at hx; subst hx; exact ⟨hi, Rel.refl hm (gm_mem hi)⟩, by simp, fun j x _ i _ h => by omega⟩
theorem Rch.row (h : Rch E ms l r i0 L a ms.length) : Rch E ms l r i0 L (a + 1) 0 :=
  ⟨h.nd, h.ok, h.i0, fun j x hj i hi h2 => h.cl j x hj i hi (by omega)⟩
theorem Rch.add (h : Rch E ms l r i0 L a q) (ha : a < L.length) {y : Nat} (hy : y < E.length ∧ Rel E l r (gm E i0) (gm E y)) : Rch E ms l r i0 (addQ L y) a q :=
  ⟨addQ_nd h.nd, fun z hz => by
    rcases addQ_in hz with hz | rfl
    · exact h.ok z hz
    · exact hy, addQ_of h.i0, fun j z hj i hi h2 => by
    rw [addQ_get (by omega)] at hj
    obtain ⟨h3, h4⟩ := h.cl j z hj i hi h2
    exact ⟨fun e => addQ_of (h3 e), fun e => addQ_of (h4 e)⟩⟩
theorem Rch.next (h : Rch E ms l r i0 L a q) (hx : L[a]? = some x) (hL : l = true → ix E (mul (gm ms q) (gm E x)) ∈ L) (hR : r = true → ix E (mul (gm E x) (gm ms q)) ∈ L) : Rch E ms l r i0 L a (q + 1) :=
  ⟨h.nd, h.ok, h.i0, fun j z hj i hi h2 => by
    by_cases e : j = a ∧ i = q
    · obtain ⟨rfl, rfl⟩ := e
      rw [hx] at hj
      injection hj with hj
      subst hj
      exact ⟨hL, hR⟩
    · exact h.cl j z hj i hi (by omega)⟩
theorem Rch.left (h : Rch E ms l r i0 L a q) (hm : Mnd n E) (hG : ∀ i, i < ms.length → gm ms i ∈ E) (hi0 : i0 < E.length) (hx : L[a]? = some x) (hq : q < ms.length) (hl : l = true) : ix E (mul (gm ms q) (gm E x)) < E.length ∧ Rel E l r (gm E i0) (gm E (ix E (mul (gm ms q) (gm E x)))) := by
  have hok := h.ok x (List.mem_of_getElem? hx)
  have hmem := hm.mulE _ (hG q hq) _ (gm_mem hok.1)
  refine ⟨ix_lt hmem, ?_⟩
  rw [gm_ix hmem]
  exact Rel.left hm (gm_mem hi0) (hG q hq) hl hok.2
theorem Rch.right (h : Rch E ms l r i0 L a q) (hm : Mnd n E) (hG : ∀ i, i < ms.length → gm ms i ∈ E) (hi0 : i0 < E.length) (hx : L[a]? = some x) (hq : q < ms.length) (hr : r = true) : ix E (mul (gm E x) (gm ms q)) < E.length ∧ Rel E l r (gm E i0) (gm E (ix E (mul (gm E x) (gm ms q)))) := by
  have hok := h.ok x (List.mem_of_getElem? hx)
  have hmem := hm.mulE _ (gm_mem hok.1) _ (hG q hq)
  refine ⟨ix_lt hmem, ?_⟩
  rw [gm_ix hmem]
  exact Rel.right hm (gm_mem hi0) (hG q hq) hr hok.2
theorem Rch.fin (h : Rch E ms l r i0 L L.length 0) (hm : Mnd n E) (hE : ∀ x, x ∈ E ↔ Mon ms n x) (hG : Pts n ms) (hi0 : i0 < E.length) {y : Nat} (hy : y < E.length) : decide (y ∈ L) = decide (Rel E l r (gm E i0) (gm E y)) := by
  rw [Bool.eq_iff_iff, decide_eq_true_eq, decide_eq_true_eq]
  constructor
  · exact fun hy => (h.ok y hy).2
  · intro hR
    have hGE : ∀ g ∈ ms, g ∈ E := fun g hg => (hE g).2 (Mon.gen hG hg)
    have key : ∀ f ∈ L.map (gm E), ∀ g ∈ ms, (l = true → mul g f ∈ L.map (gm E)) ∧ (r = true → mul f g ∈ L.map (gm E)) := by
      intro f hf g hg
      obtain ⟨x, hx, rfl⟩ := List.mem_map.1 hf
      obtain ⟨j, hj, e⟩ := List.getElem_of_mem hx
      obtain ⟨i, hi, e2⟩ := mem_gm hg
      have hok := h.ok x hx
      have h2 := h.cl j x (by rw [List.getElem?_eq_getElem hj, e]) i hi (.inl hj)
      rw [e2] at h2
      have m1 := hm.mulE _ (hGE g hg) _ (gm_mem hok.1)
      have m2 := hm.mulE _ (gm_mem hok.1) _ (hGE g hg)
      exact ⟨fun hl => List.mem_map.2 ⟨_, h2.1 hl, gm_ix m1⟩, fun hr => List.mem_map.2 ⟨_, h2.2 hr, gm_ix m2⟩⟩
    have h3 : gm E y ∈ L.map (gm E) := reach_all hm hE hG (fun f hf => by obtain ⟨x, hx, rfl⟩ := List.mem_map.1 hf; exact gm_mem (h.ok x hx).1) (List.mem_map_of_mem h.i0)
      (fun hl f hf g hg => (key f hf g hg).1 hl) (fun hr f hf g hg => (key f hf g hg).2 hr) hR
    obtain ⟨z, hz, e⟩ := List.mem_map.1 h3
    rw [← gm_inj hm.asc.nodup (h.ok z hz).1 hy e]
    exact hz
end
def qI (L : List Nat) : List Int := L.map fun (x : Nat) => (x : Int)
theorem qI_snoc (L : List Nat) (x : Nat) : qI (L ++ [x]) = qI L ++ [(x : Int)] := by simp [qI]
set_option maxRecDepth 100000
set_option linter.unusedSimpArgs false
set_option linter.unusedVariables false
abbrev TN : TypeId := 3
structure RS (w0 w : World) (N gM gq kq cq : Nat) (L : List Nat) : Prop where
  bel : Below w0.heap.size w0 w
  q : OwI TN w w0.heap.size (.slice (some ⟨gq, 0, none⟩) kq cq) (qI L)
  kq : L.length = kq
  m : Bls w gM N fun y => decide (y ∈ L)
  ne : gq ≠ gM
  gm : w0.heap.size ≤ gM
section
variable {w0 w w' : World} {N gM gq kq cq : Nat} {L : List Nat}
theorem RS.below (h : RS w0 w N gM gq kq cq L) (hb : Below w.heap.size w w') : RS w0 w' N gM gq kq cq L :=
  ⟨h.bel.trans (hb.mono h.bel.size), h.q.below hb (Nat.le_refl _), h.kq, h.m.below hb h.m.lt, h.ne, h.gm⟩
theorem RS.q4 (h : RS w0 w N gM gq kq cq L) (x : Nat) (o : Obj) : OwI TN ((w.setCell ⟨gM, x, none⟩ (.bool true)).alloc o) w0.heap.size (.slice (some ⟨gq, 0, none⟩) kq cq) (qI L) :=
  (h.q.keep (fun g hg => by injection hg with hg; exact Below.heap_setCell _ _ _ g (by rw [← hg]; exact h.ne))).alloc o
theorem RS.push (h : RS w0 w N gM gq kq cq L) {x : Nat} (hx : x < N) (hnx : x ∉ L) {w4 w5 w6 : World} {o : Obj} (h4 : w4 = w.setCell ⟨gM, x, none⟩ (.bool true)) (h5 : w5 = w4.alloc o) {g' cap : Nat} (ho : OwI TN w6 w0.heap.size (.slice (some ⟨g', 0, none⟩) (kq + 1) cap) (qI L ++ [(x : Int)]))
    (hgr : w5.grownBy w6 (some gq)) (hg : some gq = some g' ∨ g' = w5.heap.size) : RS w0 w6 N gM g' (kq + 1) cap (addQ L x) := by
  have ha : addQ L x = L ++ [x] := by unfold addQ; rw [if_neg hnx]
  have hm4 : Bls w4 gM N fun y => decide (y ∈ L) || decide (y = x) := by rw [h4]; exact h.m.set hx
  have hm5 := hm4.grown (w' := w5) (row := none) (by rw [h5]; exact World.grownBy_alloc w4 o none) (by simp)
  have hm6 := hm5.grown hgr (by simpa using Ne.symm h.ne)
  have hs4 : w4.heap.size = w.heap.size := by rw [h4]; simp [World.setCell]
  have hs5 : w5.heap.size = w.heap.size + 1 := by rw [h5]; simp [hs4]
  have hgq := (h.q.lt gq rfl).1
  have hb4 : Below w0.heap.size w0 w4 := by rw [h4]; exact h.bel.setCell (p := ⟨gM, x, none⟩) h.gm _
  have hb5 : Below w0.heap.size w0 w5 := by rw [h5]; exact hb4.alloc (by have := h.bel.size; omega) o
  have hml := h.m.lt
  refine ⟨hb5.grown hgr (by have := h.bel.size; omega) (fun k hk => by injection hk with hk; omega), by rw [ha, qI_snoc]; exact ho, by rw [ha, List.length_append, h.kq]; rfl, hm6.congr fun y _ => ?_, ?_, h.gm⟩
  · rw [ha, Bool.eq_iff_iff]; simp
  · rcases hg with e | e
    · injection e with e; rw [← e]; exact h.ne
    · omega
theorem RS.box (h : RS w0 w N gM gq kq cq L) {x : Nat} {w4 w5 w6 : World} {o : Obj} (h4 : w4 = w.setCell ⟨gM, x, none⟩ (.bool true)) (h5 : w5 = w4.alloc o) {g' hb : Nat} {f : M} (hB : Blk w hb 31 (mc f)) (hbM : hb ≠ gM) (hbq : hb ≠ gq)
    (hgr : w5.grownBy w6 (some gq)) (hg : some gq = some g' ∨ g' = w5.heap.size) : Blk w6 hb 31 (mc f) ∧ hb ≠ g' := by
  have hl := hB.lt
  have hs4 : w4.heap.size = w.heap.size := by rw [h4]; simp [World.setCell]
  have hs5 : w5.heap.size = w.heap.size + 1 := by rw [h5]; simp [hs4]
  have b4 : Blk w4 hb 31 (mc f) := by rw [h4]; exact hB.far (p := ⟨gM, x, none⟩) hbM _
  have b5 : Blk w5 hb 31 (mc f) := by rw [h5]; exact b4.alloc o
  refine ⟨b5.grown hgr (by simpa using hbq), ?_⟩
  rcases hg with e | e
  · injection e with e; rw [← e]; exact hbq
  · omega
end
set_option maxRecDepth 100000
set_option linter.unusedSimpArgs false
set_option linter.unusedVariables false
end Go.Proofs.YtchjegojcpbfpaaGreat

namespace Go.Proofs.YtchjegojcpbfpaaGreat
open Go.RowKit
set_option maxRecDepth 100000
set_option linter.unusedSimpArgs false
set_option linter.unusedVariables false
theorem monC_el {ms xs : List M} (h : monC ms xs = 0) : ∃ E ps, El ms xs E ps ∧ ∀ f ∈ xs, f ∈ E := by
  have hc : elC ms xs = 0 := by
    by_cases hc : elC ms xs = 0
    · exact hc
    · rw [elC_mon hc] at h; exact h
  obtain ⟨E, ps, hE⟩ := elC_el hc
  refine ⟨E, ps, hE, fun f hf => ?_⟩
  by_cases hin : f ∈ E
  · exact hin
  · have := monC_out hE.code hE.clo hf (by rw [← hE.eq]; exact hin)
    rw [this] at h; cases h
set_option maxRecDepth 100000
set_option linter.unusedSimpArgs false
set_option linter.unusedVariables false
set_option maxRecDepth 100000
set_option linter.unusedSimpArgs false
set_option linter.unusedVariables false
set_option maxRecDepth 100000
set_option linter.unusedSimpArgs false
set_option linter.unusedVariables false
section
variable {same : Nat → Nat → Bool}
end
set_option maxRecDepth 100000
set_option linter.unusedSimpArgs false
set_option linter.unusedVariables false
end Go.Proofs.YtchjegojcpbfpaaGreat

namespace Go.Proofs.YtchjegojcpbfpaaGreat
open Go.RowKit
set_option maxRecDepth 100000
theorem sumT_one {xs zs : List Int} {k : Nat} (h : ∀ j, gi xs j = gi zs j + if j = k then 1 else 0) : ∀ n, sumT xs n = sumT zs n + if k < n then 1 else 0
  | 0 => by simp [sumT]
  | n + 1 => by
    have ih := sumT_one h n
    rw [sumT, sumT, ih, h n]
    by_cases h1 : k < n
    · rw [if_pos h1, if_neg (by omega : ¬ n = k), if_pos (by omega : k < n + 1)]; omega
    · by_cases h2 : n = k
      · rw [if_neg h1, if_pos h2, if_pos (by omega)]; omega
      · rw [if_neg h1, if_neg h2, if_neg (by omega)]; omega
theorem sumT_zero {zs : List Int} (h : ∀ j, gi zs j = 0) : ∀ n, sumT zs n = 0
  | 0 => rfl
  | n + 1 => by rw [sumT, sumT_zero h n, h n]; rfl
theorem sumT_cnt {n : Nat} : ∀ (ks : List Nat) (out : List Int), (∀ k ∈ ks, k < n) → sumT (ks.foldl cntStep out) n = sumT out n + ks.length
  | [], out, _ => by simp
  | k :: ks, out, h => by
    rw [List.foldl_cons, sumT_cnt ks _ fun j hj => h j (List.mem_cons_of_mem _ hj), sumT_one (cntStep_gi out k) n, if_pos (h k (List.mem_cons_self ..)), List.length_cons]
    omega
theorem cntOf_sum (ks : List Nat) : sumT (cntOf ks) (cntOf ks).length = ks.length := by
  have h : ∀ k ∈ ks, k < (cntOf ks).length := fun k hk => by
    obtain ⟨i, hi, e⟩ := List.getElem_of_mem hk
    unfold cntOf
    rw [foldl_len]
    have := le_mxTo (g := fun i => ks.getD i 0 + 1) hi
    have e2 : ks.getD i 0 = k := by rw [← e]; simp [List.getD, hi]
    simp only [e2] at this
    omega
  have := sumT_cnt (n := (cntOf ks).length) ks [] h
  rw [sumT_zero (zs := []) (fun j => gi_out (by simp)), Int.zero_add] at this
  exact this
theorem sumT_bump {n : Nat} : ∀ (ks : List Nat) (out : List Int), (∀ k ∈ ks, k < n) → n = out.length → sumT (ks.foldl bump out) n = sumT out n + ks.length
  | [], out, _, _ => by simp
  | k :: ks, out, h, hn => by
    have hk := h k (List.mem_cons_self ..)
    have h1 : ∀ j, gi (bump out k) j = gi out j + if j = k then 1 else 0 := fun j => by
      unfold bump
      rw [gi_set (by omega)]
      by_cases e : j = k
      · rw [if_pos e, if_pos e, e]
      · rw [if_neg e, if_neg e]; omega
    rw [List.foldl_cons, sumT_bump ks _ (fun j hj => h j (List.mem_cons_of_mem _ hj)) (by rw [bump_len]; exact hn), sumT_one h1 n, if_pos hk, List.length_cons]
    omega
theorem cntR_sum {n : Nat} {ks : List Nat} (h : ∀ k ∈ ks, k < n) : sumT (cntR n ks) (cntR n ks).length = ks.length := by
  rw [cntR_len]
  unfold cntR
  rw [sumT_bump ks _ h (by rw [List.length_replicate]), sumT_zero, Int.zero_add]
  intro j
  unfold gi
  rw [List.getD_eq_getElem?_getD, List.getElem?_replicate]
  split <;> rfl
structure Elems (ms : List M) (E : List M) : Prop where
  r : elR ms [] = E
  pos : 0 < E.length
  len : E.length ≤ 300
  ok : ∀ f ∈ E, Valid f ∧ f.p = (gm ms 0).p
  gens : ∀ g ∈ ms, Valid g ∧ g.p = (gm ms 0).p
  mulE : ∀ f ∈ E, ∀ g ∈ ms, mul f g ∈ E
  n6 : ms.length ≤ 6
  sr : sumT (srR ms) (srR ms).length = E.length
  srb : ∀ j, 0 ≤ gi (srR ms) j ∧ gi (srR ms) j ≤ 300
  srl : (srR ms).length ≤ 5
  sl : sumT (slR ms) (slR ms).length = E.length
  slb : ∀ j, 0 ≤ gi (slR ms) j ∧ gi (slR ms) j ≤ 300
  sl0 : gi (slR ms) 0 = 1
  slp : 0 < (slR ms).length
theorem elems {ms : List M} (h : elC ms [] = 0) : ∃ E, Elems ms E := by
  obtain ⟨E, ps, hE⟩ := elC_el h
  have hm := hE.mnd
  have hg := (clo_good hE.clo).1
  obtain ⟨pn, ks, e1, e2, e3, HR, Hk, HK⟩ := srR_in hE h
  have hks : ∀ k ∈ ks, k < pn := fun k hk => by
    obtain ⟨i, hi, e⟩ := List.getElem_of_mem hk
    have := (HK.out i (by rw [← Hk.out]; exact hi)).2.2
    rw [← e]
    simpa [List.getD, hi] using this
  have hsl := slR_in hE h
  have hEl : E.length = ps.length := by rw [hE.eq]; show (sortM (ps.map (·.1))).length = ps.length; rw [sortM_length hg.nd, List.length_map]
  have hgi : ∀ j, gi (slR ms) j = ((ps.map fun q => q.2.length).count j : Int) := fun j => by
    rw [hsl]; unfold cntOf; rw [foldl_gi, gi_out (by simp)]; omega
  refine ⟨E, hE.r, hE.pos, hE.len, hm.ok, hE.G, fun f hf g hg' => hm.mulE f hf g ((hE.mem g).2 (Mon.gen hE.G hg')), hE.n6, ?_, ?_, srR_len ms, ?_, ?_, ?_, ?_⟩
  · rw [HR.out, cntR_sum hks, Hk.out]
  · intro j
    rw [HR.out]
    have := cntR_bd hks j
    have h2 := Hk.out
    have h3 := hE.len
    omega
  · rw [hsl, cntOf_sum, List.length_map, hEl]
  · intro j
    rw [hgi j]
    have h2 := List.count_le_length (a := j) (l := ps.map fun q => q.2.length)
    rw [List.length_map] at h2
    have h3 := hE.len
    omega
  · rw [hgi 0]
    obtain ⟨qs, e, hq⟩ := hg.fst
    rw [e, List.map_cons, List.count_cons]
    have : (qs.map fun q => q.2.length).count 0 = 0 := by
      rw [List.count_eq_zero]
      intro hm
      obtain ⟨q, hq1, hq2⟩ := List.mem_map.1 hm
      exact hq q hq1 (List.eq_nil_of_length_eq_zero hq2)
    rw [this]; rfl
  · rw [hsl]; unfold cntOf; rw [foldl_len]
    have h1 : 0 < (ps.map fun q => q.2.length).length := by rw [List.length_map, ← hEl]; exact hE.pos
    have := le_mxTo (g := fun i => (ps.map fun q => q.2.length).getD i 0 + 1) h1
    omega
theorem prd_mon {gens : List M} {n : Int} (hG : Pts n gens) {us : List Int} (hu : ∀ j, j < us.length → inR (gi us j) 0 ((gens.length : Int) - 1) = true) : ∀ k, k ≤ us.length → Mon gens n (prd gens n (us.take k))
  | 0, _ => by rw [List.take_zero, prd_nil]; exact .one
  | k + 1, hk => by
    rw [prd_take (by omega)]
    have hr := inR_true.1 (hu k (by omega))
    exact .snoc (prd_mon hG hu k (by omega)) (by rw [gm_eq (by omega)]; exact List.getElem_mem _)
theorem word_el {ms : List M} {us : List Int} (h : mwC ms us = 0) : elC ms [mwR ms us] = 3 ∨ (elC ms [mwR ms us] = 0 ∧ isElB ms (mwR ms us) = true) := by
  have hc : codeL ms [] = 0 := by
    refine Classical.byContradiction fun hne => ?_
    rw [(mw_bad hne).2] at h
    exact hne h
  have hw : wordB ms.length us = true := by
    cases hw : wordB ms.length us with
    | true => rfl
    | false => rw [(mw_rng hc hw).2] at h; cases h
  obtain ⟨q1, q2, q3, _, q5, q6⟩ := codeL_pts hc
  obtain ⟨_, hu⟩ := wordB_iff.1 hw
  have hR := (mw_good hc hw).1
  have hM : Mon ms (gm ms 0).p (mwR ms us) := by
    have := prd_mon q3 hu us.length (Nat.le_refl _)
    rw [List.take_length] at this
    rw [hR]; exact this
  have hv := hM.ok q1 q2 q3
  have hc2 : codeL ms [mwR ms us] = 0 := by
    obtain ⟨h1, h2, h3⟩ := codeL_zero.1 hc
    rw [List.append_nil] at h1 h3
    refine codeL_zero.2 ⟨?_, h2, ?_⟩
    · rw [List.all_append, h1]
      simp only [List.all_cons, List.all_nil, Bool.and_true, Bool.true_and]
      exact (isMap_iff _).2 hv.1
    · rw [List.all_append, h3]
      simp only [List.all_cons, List.all_nil, Bool.and_true, Bool.true_and]
      unfold sameP
      rw [decide_eq_true_eq]; exact hv.2
  cases hk : clo ms (gm ms 0).p with
  | none => exact .inl (elC_none hc2 hk)
  | some ps =>
    refine .inr ⟨elC_some hc2 hk, ?_⟩
    unfold isElB
    rw [elC_some hc2 hk, elR_some hc2 hk]
    have : mwR ms us ∈ eltM ps := by show _ ∈ sortM (ps.map (·.1)); rw [sortM_mem, clo_mem hk]; exact hM
    simp [this]
theorem least_word {ms : List M} {f : M} (h : monC ms [f] = 0) : elC ms [] = 0 ∧ prd ms (gm ms 0).p (wfR ms f) = f ∧ (∀ z ∈ wfR ms f, 0 ≤ z ∧ z < ms.length) ∧ (wfR ms f).length < (slR ms).length ∧ codeL ms [] = 0 := by
  obtain ⟨E, ps, hE, hx⟩ := monC_el h
  have hf : f ∈ E := hx f (by simp)
  have hg := (clo_good hE.clo).1
  have hc : codeL ms [] = 0 := by
    obtain ⟨h1, h2, h3⟩ := codeL_zero.1 hE.code
    rw [List.all_append, Bool.and_eq_true] at h1 h3
    exact codeL_zero.2 ⟨by rw [List.append_nil]; exact h1.1, h2, by rw [List.append_nil]; exact h3.1⟩
  have hel : elC ms [] = 0 := elC_some hc hE.clo
  have hwf : wfR ms f = wordOf ps f := wfR_in hE h
  have hf2 : f ∈ ps.map (·.1) := by rw [hE.eq] at hf; exact sortM_mem.1 hf
  obtain ⟨q, hq, e⟩ := List.mem_map.1 hf2
  obtain ⟨i, hi, e2⟩ := List.getElem_of_mem hq
  have hpm : pm ps i = q := by rw [pm_eq hi, e2]
  have hwq : wordOf ps f = q.2 := by
    have := wordOf_pm hg.nd hi
    rw [hpm] at this
    rw [← e]; exact this
  have hwd := hg.wd q hq
  obtain ⟨E', ps', hE'⟩ := elC_el hel
  have hps : ps' = ps := by
    have h1 := hE'.clo
    rw [hE.clo] at h1
    injection h1 with h1
    exact h1.symm
  subst hps
  have hsl := slR_in hE' hel
  rw [hwf, hwq]
  refine ⟨hel, ?_, hwd.2, ?_, hc⟩
  · rw [← hwd.1]; exact e
  · rw [hsl]; unfold cntOf; rw [foldl_len]
    have hi2 : i < (ps'.map fun q => q.2.length).length := by rw [List.length_map]; exact hi
    have := le_mxTo (g := fun i => (ps'.map fun q => q.2.length).getD i 0 + 1) hi2
    have e3 : (ps'.map fun q => q.2.length).getD i 0 = q.2.length := by
      rw [List.getD_eq_getElem?_getD, List.getElem?_map, List.getElem?_eq_getElem hi, e2]; rfl
    simp only [e3] at this
    omega
theorem least_short {ms : List M} {f : M} (h : monC ms [f] = 0) : (wfR ms f).length ≤ 64 := by
  obtain ⟨E, ps, hE, hx⟩ := monC_el h
  have hf : f ∈ E := hx f (by simp)
  have hg := (clo_good hE.clo).1
  have hf2 : f ∈ ps.map (·.1) := by rw [hE.eq] at hf; exact sortM_mem.1 hf
  obtain ⟨q, hq, e⟩ := List.mem_map.1 hf2
  obtain ⟨i, hi, e2⟩ := List.getElem_of_mem hq
  have hpm : pm ps i = q := by rw [pm_eq hi, e2]
  have hwq : wordOf ps f = q.2 := by
    have := wordOf_pm hg.nd hi
    rw [hpm] at this
    rw [← e]; exact this
  rw [wfR_in hE h, hwq]
  exact clo_short hE.p1 hE.p5 hE.G hE.clo q hq
theorem least_back {ms : List M} {f : M} (h : monC ms [f] = 0) : mwC ms (wfR ms f) = 0 ∧ mwR ms (wfR ms f) = f ∧ (wfR ms f).length < (slR ms).length := by
  obtain ⟨_, h2, h3, h4, h5⟩ := least_word h
  have hw : wordB ms.length (wfR ms f) = true := by
    refine wordB_iff.2 ⟨by have := least_short h; omega, fun j hj => inR_true.2 ?_⟩
    have hm : gi (wfR ms f) j ∈ wfR ms f := by rw [gi_eq hj]; exact List.getElem_mem _
    have := h3 _ hm
    omega
  obtain ⟨g1, g2⟩ := mw_good h5 hw
  exact ⟨g2, by rw [g1]; exact h2, h4⟩
end Go.Proofs.YtchjegojcpbfpaaGreat
