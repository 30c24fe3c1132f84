/- A region that draws its order, with values of unknown place and flags for what has been done; no conditions beyond those that each theorem states. A region that draws its order, whose values are known, where some slots are read before they are written; no conditions beyond those that each theorem states. Contracts of the source of draws: how it begins, its next number and a pick; no conditions beyond those that each theorem states. How the arguments of the statements read: maps by value, and the common end of each statement; no conditions. How an argument that is a list of numbers reads; no conditions. Words for slices of maps: what a slice reads as, rows that the call owns, and the append of one map; no conditions beyond those that each theorem states. How an argument that is a list of bytes reads; contracts of the laws' small helpers; no conditions beyond those that the theorems state. Contracts of the functions that list the images of a map; no conditions beyond those that each theorem states. Contracts of the functions that keep the points of a map that are such; the maps are valid where the theorems say so. Contracts of the points that are kept, for each test; the maps are valid where the theorems say so. -/
import Derived.Test.YtahamedecibmnaaGreatQP01
import Derived.Test.YtahamedecibmnaaGreatRows
import Derived.Laws.BitsLemmas
import Derived.ProofKit
import Derived.OpenShut
import Derived.ShutString
import Derived.ChangeOld
import Derived.ChangeSlices
import Derived.WalkSpells
import Derived.Lib.SliceRun
import Derived.IntWalk
import Derived.Deep.QuietTactic
import Derived.BigQuiet
set_option linter.unusedSimpArgs false
set_option linter.unusedVariables false
namespace Go.Proofs.YtahamedecibmnaaGreat
open Go.RowKit
set_option maxRecDepth 100000
section
variable {P : Program} {ops : Array Oper}
def looksOkX (ops : Array Oper) (Lw : List Nat) : Bool :=
  (List.range ops.size).all fun i =>
    match ops[i]? with
    | none => true
    | some o => (o.after.all fun e => !Region.binds .any e || decide (e.on < i)) &&
      (List.range ops.size).all fun j => match ops[j]? with
        | none => true
        | some p => match p.dst with
          | none => true
          | some d => !(o.looksAt ops).contains d || (if Lw.contains d then p.after.any fun e => Region.binds .any e && e.on == i else o.after.any fun e => Region.binds .any e && e.on == j)
theorem looksOkX_spec {ops : Array Oper} {Lw : List Nat} (h : looksOkX ops Lw = true) {i : Nat} {o : Oper} (ho : ops[i]? = some o) :
    (∀ e ∈ o.after, Region.binds .any e = true → e.on < i) ∧ ∀ (j : Nat) (p : Oper) (d : Nat), ops[j]? = some p → p.dst = some d → d ∈ o.looksAt ops →
      (d ∉ Lw ∧ ∃ e ∈ o.after, Region.binds .any e = true ∧ e.on = j) ∨ (d ∈ Lw ∧ ∃ e ∈ p.after, Region.binds .any e = true ∧ e.on = i) := by
  have hi : i < ops.size := (Array.getElem?_eq_some_iff.1 ho).1
  have h1 := List.all_eq_true.1 h i (List.mem_range.2 hi)
  simp only [ho, Bool.and_eq_true, Array.all_eq_true_iff_forall_mem, Bool.or_eq_true, Bool.not_eq_true', decide_eq_true_eq] at h1
  refine ⟨fun e he hb => (h1.1 e he).resolve_left (by rw [hb]; simp), fun j p d hp hd hl => ?_⟩
  have hj : j < ops.size := (Array.getElem?_eq_some_iff.1 hp).1
  have h2 := List.all_eq_true.1 h1.2 j (List.mem_range.2 hj)
  simp only [hp, hd] at h2
  rw [Bool.or_eq_true] at h2
  rcases h2 with h2 | h2
  · simp [hl] at h2
  · by_cases hL : d ∈ Lw
    · rw [if_pos (by simpa using hL)] at h2
      obtain ⟨k, hk, hb⟩ := Array.any_eq_true.1 h2
      simp only [Bool.and_eq_true, beq_iff_eq] at hb
      exact .inr ⟨hL, p.after[k], Array.getElem_mem hk, hb.1, hb.2⟩
    · rw [if_neg (by simpa using hL)] at h2
      obtain ⟨k, hk, hb⟩ := Array.any_eq_true.1 h2
      simp only [Bool.and_eq_true, beq_iff_eq] at hb
      exact .inl ⟨hL, o.after[k], Array.getElem_mem hk, hb.1, hb.2⟩
theorem wp_region_fixX {γ : Type} {id : Nat} {a : Act} {w : World} {Q : Exit → Act → World → Prop} (hm : P.follows .mixedOrders = true) (hns : Region.noSelect ops = true) (Lw : List Nat) (hlook : looksOkX ops Lw = true)
    (F X : γ → Array Value) (hX : ∀ c t, (X c).getD t undef = if t ∈ Lw then a.tmps.getD t undef else (F c).getD t undef) (hXs : ∀ c, (X c).size = a.tmps.size) (S : Array Bool → γ → World → Prop) (c0 : γ) (hS : S (Array.replicate ops.size false) c0 w.drew)
    (hsize : ∀ c, (F c).size = a.tmps.size)
    (hsame : ∀ t, ¬ Pending ops (Array.replicate ops.size false) t → a.tmps.getD t undef = (F c0).getD t undef)
    (hop : ∀ (i : Nat) (o : Oper), ops[i]? = some o → ∀ listed c w', listed.size = ops.size → i ∈ Region.ready .any ops listed → S listed c w' →
      if Region.wanted o (yielded ops (X c)) = true then
        o.wp P ⟨X c, a.defers⟩ w' (fun a' w'' => ∃ c', (a'.defers = a.defers ∧ ∀ t, o.dst = some t → a'.tmps.getD t undef = (F c').getD t undef) ∧ S (listed.setIfInBounds i true) c' w'' ∧ ∀ t, ¬ Pending ops (listed.setIfInBounds i true) t → o.dst ≠ some t → (F c').getD t undef = (F c).getD t undef) (fun _ _ _ => False)
      else False)
    (hQ : ∀ listed c w', (∀ i, i < ops.size → listed.getD i false = true) → S listed c w' → Q .normal ⟨F c, a.defers⟩ w') : (Code.region id ops true).wp P Q a w := by
  refine wp_region_any hm ?_
  have main : ∀ (fuel : Nat) (listed : Array Bool) (b : Act) (w' : World) (c : γ), listed.size = ops.size → ((List.range ops.size).filter fun i => !listed.getD i false).length = fuel →
      b.defers = a.defers → b.tmps.size = a.tmps.size → (∀ t, ¬ Pending ops listed t → b.tmps.getD t undef = (F c).getD t undef) →
      (∀ t, (∀ (j : Nat) (p : Oper), ops[j]? = some p → p.dst = some t → listed.getD j false = false) → b.tmps.getD t undef = a.tmps.getD t undef) →
      (∀ (k : Nat) (p : Oper), ops[k]? = some p → listed.getD k false = true → ∀ e ∈ p.after, Region.binds .any e = true → listed.getD e.on false = true) → S listed c w' → wpAny P .any ops Q fuel listed b w' := by
    intro fuel
    induction fuel with
    | zero =>
      intro listed b w' c hls hcount hbd hbs hagree huntouched hcl hSw
      have hall : ∀ i, i < ops.size → listed.getD i false = true := by
        intro i hi
        have hnil := List.length_eq_zero_iff.1 hcount
        rw [List.filter_eq_nil_iff] at hnil
        have := hnil i (List.mem_range.2 hi)
        simpa using this
      refine ⟨?_, ?_⟩
      · rw [List.eq_nil_iff_forall_not_mem]
        intro i hi
        obtain ⟨h0, o, ho, _⟩ := mem_ready.1 hi
        have hlt : i < ops.size := (Array.getElem?_eq_some_iff.1 ho).1
        have := hall i hlt
        have hi' : i < listed.size := by omega
        simp [hi'] at h0 this
        rw [h0] at this
        cases this
      · have hb : b = ⟨F c, a.defers⟩ := by
          obtain ⟨bt, bd⟩ := b
          simp only at hbd hbs hagree
          subst hbd
          congr 1
          refine Array.ext (by rw [hbs, hsize]) fun t h1 h2 => ?_
          have := hagree t (by rintro ⟨j, o, ho, _, hl⟩; have := hall j (Array.getElem?_eq_some_iff.1 ho).1; rw [hl] at this; cases this)
          simpa [Array.getD, h1, h2] using this
        rw [hb]
        exact hQ listed c w' hall hSw
    | succ fuel ih =>
      intro listed b w' c hls hcount hbd hbs hagree huntouched hcl hSw
      refine ⟨?_, ?_⟩
      · intro hnil
        exfalso
        -- the least operation that is not done may come up
        have hex : ∃ i, i < ops.size ∧ listed.getD i false = false := by
          have hne : ((List.range ops.size).filter fun i => !listed.getD i false) ≠ [] := by
            intro e; rw [e] at hcount; simp at hcount
          obtain ⟨i, hi⟩ := List.exists_mem_of_ne_nil _ hne
          rw [List.mem_filter, List.mem_range] at hi
          exact ⟨i, hi.1, by simpa using hi.2⟩
        obtain ⟨i, ⟨hi, hil⟩, hmin⟩ := exists_least hex
        have ho : ops[i]? = some ops[i] := Array.getElem?_eq_getElem hi
        have hmem : i ∈ Region.ready .any ops listed := by
          refine mem_ready.2 ⟨?_, ops[i], ho, fun e he hbe => ?_⟩
          · have hi' : i < listed.size := by omega
            simp [hi'] at hil ⊢; exact hil
          · have hlt := (looksOkX_spec hlook ho).1 e he hbe
            cases hc : listed.getD e.on false with
            | true => rfl
            | false => exact absurd (hmin e.on ⟨by omega, hc⟩) (by omega)
        rw [hnil] at hmem
        cases hmem
      · intro i hi
        obtain ⟨h0, o, ho, hdeps⟩ := mem_ready.1 hi
        have hlt : i < ops.size := (Array.getElem?_eq_some_iff.1 ho).1
        have hil : i < listed.size := by omega
        have hi0 : listed.getD i false = false := by simp [hil] at h0 ⊢; exact h0
        have hlooks : ∀ d ∈ o.looksAt ops, b.tmps.getD d undef = (X c).getD d undef := by
          intro d hd
          rw [hX]
          have hl := (looksOkX_spec hlook ho).2
          by_cases hdL : d ∈ Lw
          · rw [if_pos hdL]
            refine huntouched d fun j p hp hpd => ?_
            rcases hl j p d hp hpd hd with ⟨h, _⟩ | ⟨_, e, he, hb, hej⟩
            · exact absurd hdL h
            · cases hc : listed.getD j false with
              | false => rfl
              | true =>
                have := hcl j p hp hc e he hb
                rw [hej, hi0] at this
                cases this
          · rw [if_neg hdL]
            refine hagree d ?_
            rintro ⟨j, p, hp, hpd, hjl⟩
            rcases hl j p d hp hpd hd with ⟨_, e, he, hb, hej⟩ | ⟨h, _⟩
            · have := hdeps e he hb
              rw [hej, hjl] at this
              cases this
            · exact hdL h
        have hcount' : ((List.range ops.size).filter fun j => !(listed.setIfInBounds i true).getD j false).length = fuel := by
          have key : ∀ l : List Nat, l.Nodup → i ∈ l → (l.filter fun j => !(listed.setIfInBounds i true).getD j false).length + 1 = (l.filter fun j => !listed.getD j false).length := by
            intro l
            induction l with
            | nil => intro _ h; cases h
            | cons x xs ihl =>
              intro hnd hmem
              rw [List.nodup_cons] at hnd
              by_cases hx : x = i
              · subst hx
                have e1 : (listed.setIfInBounds x true).getD x false = true := by simp [hil]
                have e2 : (xs.filter fun j => !(listed.setIfInBounds x true).getD j false) = xs.filter fun j => !listed.getD j false := by
                  refine List.filter_congr fun j hj => ?_
                  rw [getD_set_ne false (fun e => hnd.1 (by rw [e]; exact hj))]
                rw [List.filter_cons, List.filter_cons, e1, hi0, e2]
                simp
              · have e1 : (listed.setIfInBounds i true).getD x false = listed.getD x false := getD_set_ne false (Ne.symm hx)
                have hmem' : i ∈ xs := by cases hmem with | head => exact absurd rfl hx | tail _ h => exact h
                have := ihl hnd.2 hmem'
                rw [List.filter_cons, List.filter_cons, e1]
                cases listed.getD x false <;> simp <;> simpa using this
          have := key (List.range ops.size) List.nodup_range (List.mem_range.2 hlt)
          omega
        -- the frame at hand and F agree on what the operation looks at
        have heval : ∀ x ∈ o.op.operands, b.eval x = (⟨X c, a.defers⟩ : Act).eval x := by
          intro x hx
          cases x with
          | tmp t =>
            refine hlooks t ?_
            exact List.mem_append_left _ (List.mem_filterMap.2 ⟨.tmp t, by simpa using hx, rfl⟩)
          | const v => rfl
          | global g => rfl
          | func f => rfl
        have hexec : execOp b.eval o = execOp (⟨X c, a.defers⟩ : Act).eval o := execOp_congr o (fun cs bb => Region.noSelect_spec hns i o cs bb ho) heval
        have hwant : Region.wanted o (yielded ops b.tmps) = Region.wanted o (yielded ops (X c)) := by
          unfold Region.wanted
          cases hg : o.guard with
          | none => rfl
          | some gw =>
            obtain ⟨g, want⟩ := gw
            have hy : yielded ops b.tmps g = yielded ops (X c) g := by
              unfold yielded
              cases ht : (ops[g]?).bind (·.dst) with
              | none => rfl
              | some t =>
                have hb := hlooks t (by simp [Oper.looksAt, hg, ht])
                have hsz : b.tmps.size = (X c).size := by rw [hbs, hXs]
                have : b.tmps[t]? = (X c)[t]? := by
                  by_cases h : t < b.tmps.size
                  · have h' : t < (X c).size := Nat.lt_of_lt_of_eq h hsz
                    simp [Array.getD, h, h'] at hb
                    simp [h, h', hb]
                  · rw [Array.getElem?_eq_none (Nat.le_of_not_lt h), Array.getElem?_eq_none (hsz ▸ Nat.le_of_not_lt h)]
                simp only [Option.bind_some, this]
            simp only [hy]
        -- behind the operation
        have hnext : ∀ (v : Value) (w'' : World) (c' : γ), (∀ t, o.dst = some t → ((⟨X c, a.defers⟩ : Act).put o.dst v).tmps.getD t undef = (F c').getD t undef) → (∀ t, ¬ Pending ops (listed.setIfInBounds i true) t → o.dst ≠ some t → (F c').getD t undef = (F c).getD t undef) → S (listed.setIfInBounds i true) c' w'' →
            wpAny P .any ops Q fuel (listed.setIfInBounds i true) (b.put o.dst v) w'' := by
          intro v w'' c' hput hoff hS'
          refine ih _ _ _ c' (by simpa using hls) hcount' ?_ ?_ ?_ ?_ ?_ hS'
          · cases o.dst <;> exact hbd
          · cases o.dst <;> simpa [Act.put] using hbs
          · intro t hp
            by_cases ht : o.dst = some t
            · have h1 : (b.put o.dst v).tmps.getD t undef = ((⟨X c, a.defers⟩ : Act).put o.dst v).tmps.getD t undef := by
                rw [ht]
                have hsz : b.tmps.size = (X c).size := by rw [hbs, hXs]
                simp only [Act.put, Array.getD_eq_getD_getElem?]
                by_cases h : t < b.tmps.size
                · simp [h, show t < (X c).size by omega]
                · rw [Array.getElem?_eq_none (by simp; omega), Array.getElem?_eq_none (by simp; omega)]
              rw [h1, hput t ht]
            · have h1 : (b.put o.dst v).tmps.getD t undef = b.tmps.getD t undef := by
                cases hdst : o.dst with
                | none => rfl
                | some d =>
                  have hne : d ≠ t := fun e => ht (by rw [hdst, e])
                  simp [Act.put, Array.getElem?_setIfInBounds_ne hne]
              rw [h1, hoff t hp ht]
              refine hagree t ?_
              rintro ⟨j, p, hp', hpd, hjl⟩
              refine hp ⟨j, p, hp', hpd, ?_⟩
              have hji : i ≠ j := by
                intro e; subst e
                rw [ho] at hp'; injection hp' with hp'; subst hp'; exact ht hpd
              rw [getD_set_ne false hji]; exact hjl
          · intro t hall
            have hne : o.dst ≠ some t := by
              intro e
              have := hall i o ho e
              simp [hil] at this
            have h1 : (b.put o.dst v).tmps.getD t undef = b.tmps.getD t undef := by
              cases hdst : o.dst with
              | none => rfl
              | some d =>
                have hne : d ≠ t := fun e => hne (by rw [hdst, e])
                simp [Act.put, Array.getElem?_setIfInBounds_ne hne]
            rw [h1]
            refine huntouched t fun j p hp hpd => ?_
            have := hall j p hp hpd
            have hji : i ≠ j := by
              intro e; subst e
              rw [ho] at hp; injection hp with hp; subst hp; exact hne hpd
            rwa [getD_set_ne false hji] at this
          · intro k p hp hk e he hb
            have base : listed.getD e.on false = true := by
              by_cases ek : i = k
              · subst ek
                rw [ho] at hp; injection hp with hp; subst hp
                exact hdeps e he hb
              · rw [getD_set_ne false ek] at hk
                exact hcl k p hp hk e he hb
            by_cases ee : i = e.on
            · rw [← ee] at base; rw [hi0] at base; cases base
            · rw [getD_set_ne false ee]; exact base
        have hstep := hop i o ho listed c w' hls hi hSw
        unfold wpOp
        simp only [ho]
        rw [hwant]
        split
        · rename_i hw
          rw [if_pos hw] at hstep
          refine .inl ?_
          unfold Oper.wp at hstep ⊢
          rw [hexec]
          refine upon_of hstep ?_ ?_
          · rintro v w'' ⟨c', he, hS', hoff⟩
            exact hnext v w'' c' he.2 hoff hS'
          · rintro b' hb' w'' ⟨c', he, _⟩
            exact hb' he.1
        · rename_i hw
          rw [if_neg hw] at hstep
          exact hstep.elim
  refine main ops.size (Array.replicate ops.size false) a w.drew c0 (by simp) ?_ rfl rfl hsame (fun _ _ => rfl) (fun k p hp hk => by
    have hk' : k < ops.size := (Array.getElem?_eq_some_iff.1 hp).1
    simp [hk'] at hk) hS
  rw [List.filter_eq_self.2]
  · simp
  · intro i hi
    simp at hi
    simp [hi]
def setAll (F : Array Value) : List (Nat × Value) → Array Value
  | [] => F
  | p :: l => setAll (F.setIfInBounds p.1 p.2) l
theorem setAll_far : ∀ (l : List (Nat × Value)) (F : Array Value) (t : Nat), (∀ p ∈ l, p.1 ≠ t) → (setAll F l).getD t undef = F.getD t undef
  | [], _, _, _ => rfl
  | p :: l, F, t, h => by
    rw [setAll, setAll_far l _ t fun q hq => h q (by simp [hq])]
    have := h p (by simp)
    simp [Array.getElem?_setIfInBounds_ne this]
theorem setAll_size : ∀ (l : List (Nat × Value)) (F : Array Value), (setAll F l).size = F.size
  | [], _ => rfl
  | p :: l, F => by rw [setAll, setAll_size l]; simp
theorem setAll_reset (A : Array Value) : ∀ (l : List Nat) (F : Array Value) (t : Nat), (∀ t ∈ l, t < F.size) → (setAll F (l.map fun t => (t, A.getD t undef))).getD t undef = if t ∈ l then A.getD t undef else F.getD t undef
  | [], F, t, _ => by simp [setAll]
  | x :: l, F, t, h => by
    rw [List.map_cons, setAll, setAll_reset A l _ t fun t ht => by simpa using h t (by simp [ht])]
    by_cases ht : t ∈ l
    · rw [if_pos ht, if_pos (by simp [ht])]
    · rw [if_neg ht]
      by_cases e : t = x
      · subst e
        rw [if_pos (by simp)]
        simp [h t (by simp)]
      · rw [if_neg (by simp [ht, e])]
        simp [Array.getElem?_setIfInBounds_ne (Ne.symm e)]
def FlagPost {γ : Type} (ops : Array Oper) (F : γ → Array Value) (D : List Deferred) (S : (Nat → Bool) → γ → World → Prop) (i : Nat) (o : Oper) (d : Nat → Bool) (c : γ) (a' : Act) (w' : World) : Prop :=
  ∃ c' L, (a'.defers = D ∧ ∀ t, o.dst = some t → a'.tmps.getD t undef = (F c').getD t undef) ∧ S (fun j => if j = i then true else d j) c' w' ∧
      F c' = setAll (F c) L ∧ ∀ p ∈ L, o.dst = some p.1 ∨ ∃ (j : Nat) (q : Oper), ops[j]? = some q ∧ q.dst = some p.1 ∧ j ≠ i ∧ d j = false
def Closed (ops : Array Oper) (d : Nat → Bool) : Prop := ∀ (k : Nat) (p : Oper), ops[k]? = some p → d k = true → ∀ e ∈ p.after, Region.binds .any e = true → d e.on = true
theorem Closed.up {d : Nat → Bool} (h : Closed ops d) {k j : Nat} {o : Oper} (ho : ops[k]? = some o) (he : (o.after.any fun e => Region.binds .any e && e.on == j) = true) (hk : d k = true) : d j = true := by
  obtain ⟨i, hi, hb⟩ := Array.any_eq_true.1 he
  simp only [Bool.and_eq_true, beq_iff_eq] at hb
  have := h k o ho hk _ (Array.getElem_mem hi) hb.1
  rwa [hb.2] at this
theorem Closed.down {d : Nat → Bool} (h : Closed ops d) {k j : Nat} {o : Oper} (ho : ops[k]? = some o) (he : (o.after.any fun e => Region.binds .any e && e.on == j) = true) (hj : d j = false) : d k = false := by
  cases hk : d k with
  | false => rfl
  | true => rw [h.up ho he hk] at hj; cases hj
def Flag {γ : Type} (P : Program) (ops : Array Oper) (F X : γ → Array Value) (D : List Deferred) (S : (Nat → Bool) → γ → World → Prop) (i : Nat) (o : Oper) : Prop :=
  ∀ d c w, d i = false → (∀ j, (o.after.any fun e => Region.binds .any e && e.on == j) = true → d j = true) → Closed ops d → S d c w →
    o.wp P ⟨X c, D⟩ w (FlagPost ops F D S i o d c) (fun _ _ _ => False)
@[reducible] def FlagL {γ : Type} (P : Program) (ops : Array Oper) (F X : γ → Array Value) (D : List Deferred) (S : (Nat → Bool) → γ → World → Prop) : Nat → List Oper → Prop
  | _, [] => True
  | k, o :: os => (o.guard = none ∧ Flag P ops F X D S k o) ∧ FlagL P ops F X D S (k + 1) os
theorem FlagL.get {γ : Type} {F X : γ → Array Value} {D : List Deferred} {S : (Nat → Bool) → γ → World → Prop} : ∀ (l : List Oper) (k : Nat), FlagL P ops F X D S k l → ∀ (i : Nat) (o : Oper), l[i]? = some o → o.guard = none ∧ Flag P ops F X D S (k + i) o
  | [], _, _, i, o, h => by simp at h
  | p :: l, k, hl, 0, o, h => by
    simp at h; subst h
    exact hl.1
  | p :: l, k, hl, i + 1, o, h => by
    have := FlagL.get l (k + 1) hl.2 i o (by simpa using h)
    rwa [Nat.add_assoc, Nat.add_comm 1 i] at this
theorem wp_region_flags {γ : Type} {id : Nat} {a : Act} {w : World} {Q : Exit → Act → World → Prop} (D : List Deferred) (hD : a.defers = D) (hm : P.follows .mixedOrders = true) (hns : Region.noSelect ops = true) (Lw : List Nat) (hlook : looksOkX ops Lw = true)
    (F : γ → Array Value) (vs : γ → List Value) (hF : ∀ c, putAll ops.toList (vs c) a.tmps = F c) (LX : List (Nat × Value)) (hLX : LX = Lw.map fun t => (t, a.tmps.getD t undef)) (X : γ → Array Value) (hX0 : ∀ c, setAll (F c) LX = X c) (hLw : Lw.all (fun t => decide (t < a.tmps.size)) = true) (S : (Nat → Bool) → γ → World → Prop) (c0 : γ) (hS : S (fun _ => false) c0 w.drew)
    (hop : FlagL P ops F X D S 0 ops.toList)
    (hQ : ∀ d c w', (∀ i, i < ops.size → d i = true) → S d c w' → Q .normal ⟨F c, D⟩ w') : (Code.region id ops true).wp P Q a w := by
  subst hD
  have hX : ∀ c, X c = setAll (F c) (Lw.map fun t => (t, a.tmps.getD t undef)) := fun c => by rw [← hX0, hLX]
  have hFs : ∀ c, (F c).size = a.tmps.size := fun c => by rw [← hF c, size_putAll]
  refine wp_region_fixX hm hns Lw hlook F X (fun c t => by rw [hX]; exact setAll_reset a.tmps Lw (F c) t (fun t ht => by have := List.all_eq_true.1 hLw t ht; rw [hFs]; simpa using this)) (fun c => by rw [hX, setAll_size]; exact hFs c) (fun listed c w' => S (fun j => listed.getD j false) c w' ∧
      ∀ (k : Nat) (p : Oper), ops[k]? = some p → listed.getD k false = true → ∀ e ∈ p.after, Region.binds .any e = true → listed.getD e.on false = true) c0 ?_ (fun c => by rw [← hF c, size_putAll]) ?_ ?_ ?_
  · refine ⟨?_, fun k p hp hk => ?_⟩
    · have : (fun j => (Array.replicate ops.size false).getD j false) = fun _ => false := by
        funext j
        rw [Array.getD_eq_getD_getElem?, Array.getElem?_replicate]
        split <;> rfl
      rw [this]; exact hS
    · have hk' : k < ops.size := (Array.getElem?_eq_some_iff.1 hp).1
      simp [hk'] at hk
  · intro t ht
    rw [← hF c0, putAll_same _ _ _ _ (not_pending ht)]
  · intro i o ho listed c w' hls hready ⟨hS', hcl⟩
    have hlt : i < ops.size := (Array.getElem?_eq_some_iff.1 ho).1
    have hil : i < listed.size := by omega
    obtain ⟨h0, o', ho', hdeps⟩ := mem_ready.1 hready
    rw [ho] at ho'; injection ho' with ho'; subst ho'
    have hi0 : listed.getD i false = false := by simp [hil] at h0 ⊢; exact h0
    have hupd : (fun j => (listed.setIfInBounds i true).getD j false) = fun j => if j = i then true else listed.getD j false := by
      funext j
      by_cases e : j = i
      · subst e; simp [hil]
      · rw [getD_set_ne false (Ne.symm e), if_neg e]
    have hcl' : ∀ (k : Nat) (p : Oper), ops[k]? = some p → (listed.setIfInBounds i true).getD k false = true → ∀ e ∈ p.after, Region.binds .any e = true → (listed.setIfInBounds i true).getD e.on false = true := by
      intro k p hp hk e he hb
      have base : listed.getD e.on false = true := by
        by_cases ek : i = k
        · subst ek
          rw [ho] at hp; injection hp with hp; subst hp
          exact hdeps e he hb
        · rw [getD_set_ne false ek] at hk
          exact hcl k p hp hk e he hb
      by_cases ee : i = e.on
      · rw [← ee] at base; rw [hi0] at base; cases base
      · rw [getD_set_ne false ee]; exact base
    obtain ⟨hg, hf⟩ := FlagL.get _ _ hop i o (by simpa using ho)
    rw [Nat.zero_add] at hf
    have hw : Region.wanted o (yielded ops (X c)) = true := by simp [Region.wanted, hg]
    rw [if_pos hw]
    have hdeps' : ∀ j, (o.after.any fun e => Region.binds .any e && e.on == j) = true → listed.getD j false = true := fun j he => by
      obtain ⟨m, hm, hb⟩ := Array.any_eq_true.1 he
      simp only [Bool.and_eq_true, beq_iff_eq] at hb
      have := hdeps _ (Array.getElem_mem hm) hb.1
      rwa [hb.2] at this
    have h' := hf (fun j => listed.getD j false) c w' hi0 hdeps' hcl hS'
    unfold Oper.wp at h' ⊢
    refine upon_of h' ?_ ?_
    · rintro v w'' ⟨c', L, hd, s, hL, hLs⟩
      refine ⟨c', hd, ⟨by rw [hupd]; exact s, hcl'⟩, fun t hp hne => ?_⟩
      rw [hL, setAll_far]
      intro p hpL e
      rcases hLs p hpL with h | ⟨j, q, hj, hq, hji, hdj⟩
      · exact hne (by rw [h, e])
      · refine hp ⟨j, q, hj, by rw [hq, e], ?_⟩
        rw [getD_set_ne false (Ne.symm hji)]; exact hdj
    · rintro b hb w'' ⟨c', L, hd, _⟩
      exact hb hd.1
  · intro listed c w' hall ⟨hS', _⟩
    exact hQ _ c w' (fun i hi => hall i hi) hS'
def PurePost {γ : Type} (F : γ → Array Value) (D : List Deferred) (o : Oper) (c : γ) (w : World) (a' : Act) (w' : World) : Prop :=
  a'.defers = D ∧ (∀ t, o.dst = some t → a'.tmps.getD t undef = (F c).getD t undef) ∧ w' = w
theorem Flag.pure {γ : Type} {F X : γ → Array Value} {D : List Deferred} {S : (Nat → Bool) → γ → World → Prop} {i : Nat} {o : Oper}
    (hst : ∀ d c w, S d c w → S (fun j => if j = i then true else d j) c w)
    (h : ∀ d c w, d i = false → (∀ j, (o.after.any fun e => Region.binds .any e && e.on == j) = true → d j = true) → Closed ops d → S d c w → o.wp P ⟨X c, D⟩ w (PurePost F D o c w) (fun _ _ _ => False)) : Flag P ops F X D S i o := by
  intro d c w hd hdeps hcl hS
  have h' := h d c w hd hdeps hcl hS
  unfold Oper.wp at h' ⊢
  refine upon_of h' ?_ ?_
  · rintro v w'' ⟨e1, e2, rfl⟩
    exact ⟨c, [], ⟨e1, e2⟩, hst d c _ hS, rfl, by simp⟩
  · rintro b hb w'' ⟨e, _⟩
    exact hb e
theorem FlagPost.own {γ : Type} {F : γ → Array Value} {D : List Deferred} {S : (Nat → Bool) → γ → World → Prop} {i : Nat} {o : Oper} {d : Nat → Bool} {c : γ} {a' : Act} {w' : World} (c' : γ) (t : Nat) (v : Value)
    (hd : a'.defers = D) (ho : o.dst = some t) (hv : a'.tmps.getD t undef = (F c').getD t undef) (hS : S (fun j => if j = i then true else d j) c' w') (hF : F c' = (F c).setIfInBounds t v) : FlagPost ops F D S i o d c a' w' :=
  ⟨c', [(t, v)], ⟨hd, fun t' ht => by rw [ho] at ht; injection ht with ht; subst ht; exact hv⟩, hS, hF, fun p hp => by simp at hp; subst hp; exact .inl ho⟩
theorem FlagPost.two {γ : Type} {F : γ → Array Value} {D : List Deferred} {S : (Nat → Bool) → γ → World → Prop} {i : Nat} {o : Oper} {d : Nat → Bool} {c : γ} {a' : Act} {w' : World} (c' : γ) (t : Nat) (v : Value) (k : Nat) (q : Oper) (t2 : Nat)
    (hd : a'.defers = D) (ho : o.dst = some t) (hv : a'.tmps.getD t undef = (F c').getD t undef) (hS : S (fun j => if j = i then true else d j) c' w') (hF : F c' = ((F c).setIfInBounds t v).setIfInBounds t2 v)
    (hq : ops[k]? = some q) (hq2 : q.dst = some t2) (hk : k ≠ i) (hdk : d k = false) : FlagPost ops F D S i o d c a' w' :=
  ⟨c', [(t, v), (t2, v)], ⟨hd, fun t' ht => by rw [ho] at ht; injection ht with ht; subst ht; exact hv⟩, hS, hF, fun p hp => by
    simp at hp
    rcases hp with rfl | rfl
    · exact .inl ho
    · exact .inr ⟨k, q, hq, hq2, hk, hdk⟩⟩
end
set_option maxRecDepth 100000
section
variable {P : Program} {ops : Array Oper}
theorem wp_region_fixY {γ : Type} {id : Nat} {a : Act} {w : World} {Q : Exit → Act → World → Prop} (hm : P.follows .mixedOrders = true) (hns : Region.noSelect ops = true) (Lw : List Nat) (hlook : looksOkX ops Lw = true)
    (F X : γ → Array Value) (hX : ∀ c t, (X c).getD t undef = if t ∈ Lw then a.tmps.getD t undef else (F c).getD t undef) (hXs : ∀ c, (X c).size = a.tmps.size) (S : Array Bool → γ → World → Prop) (c0 : γ) (hS : S (Array.replicate ops.size false) c0 w.drew)
    (hsize : ∀ c, (F c).size = a.tmps.size)
    (hsame : ∀ t, ¬ Pending ops (Array.replicate ops.size false) t → a.tmps.getD t undef = (F c0).getD t undef)
    (hop : ∀ (i : Nat) (o : Oper), ops[i]? = some o → ∀ listed c w', listed.size = ops.size → i ∈ Region.ready .any ops listed → S listed c w' →
      if Region.wanted o (yielded ops (X c)) = true then
        o.wp P ⟨X c, a.defers⟩ w' (fun a' w'' => ∃ c', (a'.defers = a.defers ∧ ∀ t, o.dst = some t → a'.tmps.getD t undef = (F c').getD t undef) ∧ S (listed.setIfInBounds i true) c' w'' ∧ ∀ t, ¬ Pending ops (listed.setIfInBounds i true) t → o.dst ≠ some t → (F c').getD t undef = (F c).getD t undef) (fun _ _ _ => False)
      else ∃ c', (∀ t, o.dst = some t → ((⟨X c, a.defers⟩ : Act).put o.dst undef).tmps.getD t undef = (F c').getD t undef) ∧ S (listed.setIfInBounds i true) c' w' ∧ ∀ t, ¬ Pending ops (listed.setIfInBounds i true) t → o.dst ≠ some t → (F c').getD t undef = (F c).getD t undef)
    (hQ : ∀ listed c w', (∀ i, i < ops.size → listed.getD i false = true) → S listed c w' → Q .normal ⟨F c, a.defers⟩ w') : (Code.region id ops true).wp P Q a w := by
  refine wp_region_any hm ?_
  have main : ∀ (fuel : Nat) (listed : Array Bool) (b : Act) (w' : World) (c : γ), listed.size = ops.size → ((List.range ops.size).filter fun i => !listed.getD i false).length = fuel →
      b.defers = a.defers → b.tmps.size = a.tmps.size → (∀ t, ¬ Pending ops listed t → b.tmps.getD t undef = (F c).getD t undef) →
      (∀ t, (∀ (j : Nat) (p : Oper), ops[j]? = some p → p.dst = some t → listed.getD j false = false) → b.tmps.getD t undef = a.tmps.getD t undef) →
      (∀ (k : Nat) (p : Oper), ops[k]? = some p → listed.getD k false = true → ∀ e ∈ p.after, Region.binds .any e = true → listed.getD e.on false = true) → S listed c w' → wpAny P .any ops Q fuel listed b w' := by
    intro fuel
    induction fuel with
    | zero =>
      intro listed b w' c hls hcount hbd hbs hagree huntouched hcl hSw
      have hall : ∀ i, i < ops.size → listed.getD i false = true := by
        intro i hi
        have hnil := List.length_eq_zero_iff.1 hcount
        rw [List.filter_eq_nil_iff] at hnil
        have := hnil i (List.mem_range.2 hi)
        simpa using this
      refine ⟨?_, ?_⟩
      · rw [List.eq_nil_iff_forall_not_mem]
        intro i hi
        obtain ⟨h0, o, ho, _⟩ := mem_ready.1 hi
        have hlt : i < ops.size := (Array.getElem?_eq_some_iff.1 ho).1
        have := hall i hlt
        have hi' : i < listed.size := by omega
        simp [hi'] at h0 this
        rw [h0] at this
        cases this
      · have hb : b = ⟨F c, a.defers⟩ := by
          obtain ⟨bt, bd⟩ := b
          simp only at hbd hbs hagree
          subst hbd
          congr 1
          refine Array.ext (by rw [hbs, hsize]) fun t h1 h2 => ?_
          have := hagree t (by rintro ⟨j, o, ho, _, hl⟩; have := hall j (Array.getElem?_eq_some_iff.1 ho).1; rw [hl] at this; cases this)
          simpa [Array.getD, h1, h2] using this
        rw [hb]
        exact hQ listed c w' hall hSw
    | succ fuel ih =>
      intro listed b w' c hls hcount hbd hbs hagree huntouched hcl hSw
      refine ⟨?_, ?_⟩
      · intro hnil
        exfalso
        -- the least operation that is not done may come up
        have hex : ∃ i, i < ops.size ∧ listed.getD i false = false := by
          have hne : ((List.range ops.size).filter fun i => !listed.getD i false) ≠ [] := by
            intro e; rw [e] at hcount; simp at hcount
          obtain ⟨i, hi⟩ := List.exists_mem_of_ne_nil _ hne
          rw [List.mem_filter, List.mem_range] at hi
          exact ⟨i, hi.1, by simpa using hi.2⟩
        obtain ⟨i, ⟨hi, hil⟩, hmin⟩ := exists_least hex
        have ho : ops[i]? = some ops[i] := Array.getElem?_eq_getElem hi
        have hmem : i ∈ Region.ready .any ops listed := by
          refine mem_ready.2 ⟨?_, ops[i], ho, fun e he hbe => ?_⟩
          · have hi' : i < listed.size := by omega
            simp [hi'] at hil ⊢; exact hil
          · have hlt := (looksOkX_spec hlook ho).1 e he hbe
            cases hc : listed.getD e.on false with
            | true => rfl
            | false => exact absurd (hmin e.on ⟨by omega, hc⟩) (by omega)
        rw [hnil] at hmem
        cases hmem
      · intro i hi
        obtain ⟨h0, o, ho, hdeps⟩ := mem_ready.1 hi
        have hlt : i < ops.size := (Array.getElem?_eq_some_iff.1 ho).1
        have hil : i < listed.size := by omega
        have hi0 : listed.getD i false = false := by simp [hil] at h0 ⊢; exact h0
        have hlooks : ∀ d ∈ o.looksAt ops, b.tmps.getD d undef = (X c).getD d undef := by
          intro d hd
          rw [hX]
          have hl := (looksOkX_spec hlook ho).2
          by_cases hdL : d ∈ Lw
          · rw [if_pos hdL]
            refine huntouched d fun j p hp hpd => ?_
            rcases hl j p d hp hpd hd with ⟨h, _⟩ | ⟨_, e, he, hb, hej⟩
            · exact absurd hdL h
            · cases hc : listed.getD j false with
              | false => rfl
              | true =>
                have := hcl j p hp hc e he hb
                rw [hej, hi0] at this
                cases this
          · rw [if_neg hdL]
            refine hagree d ?_
            rintro ⟨j, p, hp, hpd, hjl⟩
            rcases hl j p d hp hpd hd with ⟨_, e, he, hb, hej⟩ | ⟨h, _⟩
            · have := hdeps e he hb
              rw [hej, hjl] at this
              cases this
            · exact hdL h
        have hcount' : ((List.range ops.size).filter fun j => !(listed.setIfInBounds i true).getD j false).length = fuel := by
          have key : ∀ l : List Nat, l.Nodup → i ∈ l → (l.filter fun j => !(listed.setIfInBounds i true).getD j false).length + 1 = (l.filter fun j => !listed.getD j false).length := by
            intro l
            induction l with
            | nil => intro _ h; cases h
            | cons x xs ihl =>
              intro hnd hmem
              rw [List.nodup_cons] at hnd
              by_cases hx : x = i
              · subst hx
                have e1 : (listed.setIfInBounds x true).getD x false = true := by simp [hil]
                have e2 : (xs.filter fun j => !(listed.setIfInBounds x true).getD j false) = xs.filter fun j => !listed.getD j false := by
                  refine List.filter_congr fun j hj => ?_
                  rw [getD_set_ne false (fun e => hnd.1 (by rw [e]; exact hj))]
                rw [List.filter_cons, List.filter_cons, e1, hi0, e2]
                simp
              · have e1 : (listed.setIfInBounds i true).getD x false = listed.getD x false := getD_set_ne false (Ne.symm hx)
                have hmem' : i ∈ xs := by cases hmem with | head => exact absurd rfl hx | tail _ h => exact h
                have := ihl hnd.2 hmem'
                rw [List.filter_cons, List.filter_cons, e1]
                cases listed.getD x false <;> simp <;> simpa using this
          have := key (List.range ops.size) List.nodup_range (List.mem_range.2 hlt)
          omega
        -- the frame at hand and F agree on what the operation looks at
        have heval : ∀ x ∈ o.op.operands, b.eval x = (⟨X c, a.defers⟩ : Act).eval x := by
          intro x hx
          cases x with
          | tmp t =>
            refine hlooks t ?_
            exact List.mem_append_left _ (List.mem_filterMap.2 ⟨.tmp t, by simpa using hx, rfl⟩)
          | const v => rfl
          | global g => rfl
          | func f => rfl
        have hexec : execOp b.eval o = execOp (⟨X c, a.defers⟩ : Act).eval o := execOp_congr o (fun cs bb => Region.noSelect_spec hns i o cs bb ho) heval
        have hwant : Region.wanted o (yielded ops b.tmps) = Region.wanted o (yielded ops (X c)) := by
          unfold Region.wanted
          cases hg : o.guard with
          | none => rfl
          | some gw =>
            obtain ⟨g, want⟩ := gw
            have hy : yielded ops b.tmps g = yielded ops (X c) g := by
              unfold yielded
              cases ht : (ops[g]?).bind (·.dst) with
              | none => rfl
              | some t =>
                have hb := hlooks t (by simp [Oper.looksAt, hg, ht])
                have hsz : b.tmps.size = (X c).size := by rw [hbs, hXs]
                have : b.tmps[t]? = (X c)[t]? := by
                  by_cases h : t < b.tmps.size
                  · have h' : t < (X c).size := Nat.lt_of_lt_of_eq h hsz
                    simp [Array.getD, h, h'] at hb
                    simp [h, h', hb]
                  · rw [Array.getElem?_eq_none (Nat.le_of_not_lt h), Array.getElem?_eq_none (hsz ▸ Nat.le_of_not_lt h)]
                simp only [Option.bind_some, this]
            simp only [hy]
        -- behind the operation
        have hnext : ∀ (v : Value) (w'' : World) (c' : γ), (∀ t, o.dst = some t → ((⟨X c, a.defers⟩ : Act).put o.dst v).tmps.getD t undef = (F c').getD t undef) → (∀ t, ¬ Pending ops (listed.setIfInBounds i true) t → o.dst ≠ some t → (F c').getD t undef = (F c).getD t undef) → S (listed.setIfInBounds i true) c' w'' →
            wpAny P .any ops Q fuel (listed.setIfInBounds i true) (b.put o.dst v) w'' := by
          intro v w'' c' hput hoff hS'
          refine ih _ _ _ c' (by simpa using hls) hcount' ?_ ?_ ?_ ?_ ?_ hS'
          · cases o.dst <;> exact hbd
          · cases o.dst <;> simpa [Act.put] using hbs
          · intro t hp
            by_cases ht : o.dst = some t
            · have h1 : (b.put o.dst v).tmps.getD t undef = ((⟨X c, a.defers⟩ : Act).put o.dst v).tmps.getD t undef := by
                rw [ht]
                have hsz : b.tmps.size = (X c).size := by rw [hbs, hXs]
                simp only [Act.put, Array.getD_eq_getD_getElem?]
                by_cases h : t < b.tmps.size
                · simp [h, show t < (X c).size by omega]
                · rw [Array.getElem?_eq_none (by simp; omega), Array.getElem?_eq_none (by simp; omega)]
              rw [h1, hput t ht]
            · have h1 : (b.put o.dst v).tmps.getD t undef = b.tmps.getD t undef := by
                cases hdst : o.dst with
                | none => rfl
                | some d =>
                  have hne : d ≠ t := fun e => ht (by rw [hdst, e])
                  simp [Act.put, Array.getElem?_setIfInBounds_ne hne]
              rw [h1, hoff t hp ht]
              refine hagree t ?_
              rintro ⟨j, p, hp', hpd, hjl⟩
              refine hp ⟨j, p, hp', hpd, ?_⟩
              have hji : i ≠ j := by
                intro e; subst e
                rw [ho] at hp'; injection hp' with hp'; subst hp'; exact ht hpd
              rw [getD_set_ne false hji]; exact hjl
          · intro t hall
            have hne : o.dst ≠ some t := by
              intro e
              have := hall i o ho e
              simp [hil] at this
            have h1 : (b.put o.dst v).tmps.getD t undef = b.tmps.getD t undef := by
              cases hdst : o.dst with
              | none => rfl
              | some d =>
                have hne : d ≠ t := fun e => hne (by rw [hdst, e])
                simp [Act.put, Array.getElem?_setIfInBounds_ne hne]
            rw [h1]
            refine huntouched t fun j p hp hpd => ?_
            have := hall j p hp hpd
            have hji : i ≠ j := by
              intro e; subst e
              rw [ho] at hp; injection hp with hp; subst hp; exact hne hpd
            rwa [getD_set_ne false hji] at this
          · intro k p hp hk e he hb
            have base : listed.getD e.on false = true := by
              by_cases ek : i = k
              · subst ek
                rw [ho] at hp; injection hp with hp; subst hp
                exact hdeps e he hb
              · rw [getD_set_ne false ek] at hk
                exact hcl k p hp hk e he hb
            by_cases ee : i = e.on
            · rw [← ee] at base; rw [hi0] at base; cases base
            · rw [getD_set_ne false ee]; exact base
        have hstep := hop i o ho listed c w' hls hi hSw
        unfold wpOp
        simp only [ho]
        rw [hwant]
        split
        · rename_i hw
          rw [if_pos hw] at hstep
          refine .inl ?_
          unfold Oper.wp at hstep ⊢
          rw [hexec]
          refine upon_of hstep ?_ ?_
          · rintro v w'' ⟨c', he, hS', hoff⟩
            exact hnext v w'' c' he.2 hoff hS'
          · rintro b' hb' w'' ⟨c', he, _⟩
            exact hb' he.1
        · rename_i hw
          rw [if_neg hw] at hstep
          obtain ⟨c', h1, h2, h3⟩ := hstep
          exact hnext undef w' c' h1 h3 h2
  refine main ops.size (Array.replicate ops.size false) a w.drew c0 (by simp) ?_ rfl rfl hsame (fun _ _ => rfl) (fun k p hp hk => by
    have hk' : k < ops.size := (Array.getElem?_eq_some_iff.1 hp).1
    simp [hk'] at hk) hS
  rw [List.filter_eq_self.2]
  · simp
  · intro i hi
    simp at hi
    simp [hi]
def FixX (P : Program) (ops : Array Oper) (F X : Array Value) (D : List Deferred) (S : World → Prop) (o : Oper) : Prop :=
  if Region.wanted o (yielded ops X) = true then ∀ w, S w → o.wp P ⟨X, D⟩ w (fun a' w' => (a'.defers = D ∧ ∀ t, o.dst = some t → a'.tmps.getD t undef = F.getD t undef) ∧ Below w.heap.size w w') (fun _ _ _ => False)
  else ∀ t, o.dst = some t → ((⟨X, D⟩ : Act).put o.dst undef).tmps.getD t undef = F.getD t undef
theorem FixX.of {F X : Array Value} {D : List Deferred} {S : World → Prop} {o : Oper} (hg : Region.wanted o (yielded ops X) = true)
    (h : ∀ w, S w → o.wp P ⟨X, D⟩ w (fun a' w' => (a'.defers = D ∧ ∀ t, o.dst = some t → a'.tmps.getD t undef = F.getD t undef) ∧ Below w.heap.size w w') (fun _ _ _ => False)) : FixX P ops F X D S o := by
  unfold FixX
  rw [if_pos hg]
  exact h
theorem FixX.off {F X : Array Value} {D : List Deferred} {S : World → Prop} {o : Oper} (hg : Region.wanted o (yielded ops X) = false)
    (h : ∀ t, o.dst = some t → ((⟨X, D⟩ : Act).put o.dst undef).tmps.getD t undef = F.getD t undef) : FixX P ops F X D S o := by
  unfold FixX
  rw [if_neg (by rw [hg]; simp)]
  exact h
@[reducible] def FixXL (P : Program) (ops : Array Oper) (F X : Array Value) (D : List Deferred) (S : World → Prop) : List Oper → Prop
  | [] => True
  | o :: os => FixX P ops F X D S o ∧ FixXL P ops F X D S os
theorem FixXL.get {F X : Array Value} {D : List Deferred} {S : World → Prop} : ∀ (l : List Oper), FixXL P ops F X D S l → ∀ (i : Nat) (o : Oper), l[i]? = some o → FixX P ops F X D S o
  | [], _, i, o, h => by simp at h
  | p :: l, hl, 0, o, h => by simp at h; subst h; exact hl.1
  | p :: l, hl, i + 1, o, h => FixXL.get l hl.2 i o (by simpa using h)
theorem wp_region_sameX {id : Nat} {a : Act} {w : World} {Q : Exit → Act → World → Prop} (D : List Deferred) (hD : a.defers = D) (hm : P.follows .mixedOrders = true) (hns : Region.noSelect ops = true) (Lw : List Nat) (hlook : looksOkX ops Lw = true)
    (S : World → Prop) (F : Array Value) (vs : List Value) (hF : putAll ops.toList vs a.tmps = F) (LX : List (Nat × Value)) (hLX : LX = Lw.map fun t => (t, a.tmps.getD t undef)) (X : Array Value) (hX0 : setAll F LX = X) (hLw : Lw.all (fun t => decide (t < a.tmps.size)) = true)
    (hst : ∀ w' w'', S w' → Below w'.heap.size w' w'' → S w'') (hS : S w.drew)
    (hop : FixXL P ops F X D S ops.toList)
    (hQ : ∀ w', S w' → Q .normal ⟨F, D⟩ w') : (Code.region id ops true).wp P Q a w := by
  subst hD
  have hFs : F.size = a.tmps.size := by rw [← hF, size_putAll]
  have hX : X = setAll F (Lw.map fun t => (t, a.tmps.getD t undef)) := by rw [← hX0, hLX]
  refine wp_region_fixY hm hns Lw hlook (γ := Unit) (fun _ => F) (fun _ => X) (fun _ t => by rw [hX]; exact setAll_reset a.tmps Lw F t (fun t ht => by have := List.all_eq_true.1 hLw t ht; rw [hFs]; simpa using this)) (fun _ => by rw [hX, setAll_size]; exact hFs) (fun _ _ w' => S w') () hS (fun _ => hFs) ?_ ?_ ?_
  · intro t ht
    rw [← hF, putAll_same _ _ _ _ (not_pending ht)]
  · intro i o ho listed _ w' _ _ hS'
    have h := FixXL.get ops.toList hop i o (by simpa using ho)
    unfold FixX at h
    split
    · rename_i hw
      rw [if_pos hw] at h
      have h' := h w' hS'
      unfold Oper.wp at h' ⊢
      refine upon_of h' ?_ ?_
      · rintro v w'' ⟨e1, e2⟩
        exact ⟨(), e1, hst _ _ hS' e2, fun _ _ _ => rfl⟩
      · rintro b' hb' w'' ⟨e1, _⟩
        exact hb' e1.1
    · rename_i hw
      rw [if_neg hw] at h
      exact ⟨(), h, hS', fun _ _ _ => rfl⟩
  · intro _ _ w' _ hS'
    exact hQ w' hS'
end
end Go.Proofs.YtahamedecibmnaaGreat

namespace Go.Proofs.YtahamedecibmnaaGreat
open Go.RowKit
set_option maxRecDepth 100000
set_option linter.unusedSimpArgs false
set_option linter.unusedVariables false
abbrev TSrc : TypeId := 84
abbrev T8 : TypeId := 5
def cU (zs : List Int) : List Value := zs.map fun z => .int .u8 z
theorem cU_len (zs : List Int) : (cU zs).length = zs.length := by simp [cU]
def RdU (w : World) (B : Nat) (A : Option Addr) (zs : List Int) : Prop := Rd 1 w B A zs.length (cU zs) ∧ ∀ z ∈ zs, 0 ≤ z ∧ z < 256
theorem RdU.at_ {w : World} {B : Nat} {A : Option Addr} {zs : List Int} (h : RdU w B A zs) {k : Nat} (hk : k < zs.length) :
    ∃ b off, A = some ⟨b, off, none⟩ ∧ b < B ∧ w.cell? ⟨b, off + k, none⟩ = some (.int .u8 (gi zs k)) := by
  obtain ⟨b, off, e, hb, hc⟩ := h.1.2 (by omega)
  exact ⟨b, off, e, hb, hc k _ (by simp [cU, gi, List.getD, hk])⟩
theorem RdU.val {w : World} {B : Nat} {A : Option Addr} {zs : List Int} (h : RdU w B A zs) {k : Nat} (hk : k < zs.length) : 0 ≤ gi zs k ∧ gi zs k < 256 := by
  refine h.2 _ ?_
  unfold gi
  rw [List.getD_eq_getElem?_getD, List.getElem?_eq_getElem hk]
  exact List.getElem_mem hk
theorem RdU.below {w w' : World} {B : Nat} {A : Option Addr} {zs : List Int} (h : RdU w B A zs) (hb : Below B w w') : RdU w' B A zs := ⟨Rd.below h.1 hb, h.2⟩
theorem bel_s {w w' : World} {s : Nat} (hg : w.grownBy w' (some s)) (hs : s ≤ w.heap.size) : Below s w w' :=
  (Below.refl _ _).grown hg hs (fun k hk => by injection hk with hk; omega)
structure Src (w : World) (s : Nat) (A : Option Addr) (n c : Nat) (zs : List Int) : Prop where
  blk : ∃ (a : Nat) (h : Nat), a ≤ n ∧ h < 18446744073709551616 ∧ Blk w s TSrc #[.slice A n c, I a, .int .u64 h]
  code : RdU w s A zs
  len : zs.length = n
  nb : n < 4611686018427387904
section
variable {w w' : World} {s : Nat} {A : Option Addr} {n c : Nat} {zs : List Int}
theorem Src.lt (h : Src w s A n c zs) : s < w.heap.size := by obtain ⟨_, _, _, _, hb⟩ := h.blk; exact hb.lt
theorem Src.alloc (h : Src w s A n c zs) (o : Obj) : Src (w.alloc o) s A n c zs := by
  obtain ⟨a, x, h1, h2, hb⟩ := h.blk
  exact ⟨⟨a, x, h1, h2, hb.alloc o⟩, h.code.below ((Below.refl _ _).alloc (Nat.le_of_lt h.lt) o), h.len, h.nb⟩
theorem Src.below (h : Src w s A n c zs) (hb : Below w.heap.size w w') : Src w' s A n c zs := by
  obtain ⟨a, x, h1, h2, hbl⟩ := h.blk
  exact ⟨⟨a, x, h1, h2, hbl.below hb hbl.lt⟩, h.code.below (hb.mono (Nat.le_of_lt h.lt)), h.len, h.nb⟩
theorem Src.grown {row : Option Nat} (h : Src w s A n c zs) (hg : w.grownBy w' row) (hr : ∀ g, row = some g → s < g) : Src w' s A n c zs := by
  obtain ⟨a, x, h1, h2, hbl⟩ := h.blk
  refine ⟨⟨a, x, h1, h2, hbl.grown hg (fun e => by have := hr s e.symm; omega)⟩, h.code.below ((Below.refl _ _).grown hg (Nat.le_of_lt h.lt) (fun k hk => by have := hr k hk; omega)), h.len, h.nb⟩
theorem Src.cell_far (h : Src w s A n c zs) {p : Addr} (hp : s < p.block) (v : Value) : Src (w.setCell p v) s A n c zs := by
  obtain ⟨a, x, h1, h2, hbl⟩ := h.blk
  exact ⟨⟨a, x, h1, h2, hbl.far (by omega) v⟩, h.code.below ((Below.refl _ _).setCell (by omega) v), h.len, h.nb⟩
end
theorem u64_mod (z : Int) : IntKind.u64.wrap z = z % 18446744073709551616 := rfl
theorem u64_some (z : Int) : ∃ h : Nat, IntKind.u64.wrap z = (h : Int) ∧ h < 18446744073709551616 := by
  obtain ⟨y, hy⟩ : ∃ y, y = z % 18446744073709551616 := ⟨_, rfl⟩
  have h1 : 0 ≤ y := by rw [hy]; exact Int.emod_nonneg z (by decide)
  have h2 : y < 18446744073709551616 := by rw [hy]; exact Int.emod_lt_of_pos z (by decide)
  refine ⟨y.toNat, ?_, by omega⟩
  rw [u64_mod, ← hy]
  omega
theorem and24 {h : Nat} (hh : h < 18446744073709551616) : ∃ x : Nat, bits .and .u64 ((h : Int) / 8589934592) 16777215 = (x : Int) ∧ x < 16777216 := by
  have h1 : ((h : Int) / 8589934592) = ((h / 8589934592 : Nat) : Int) := by rw [Int.natCast_ediv]; rfl
  have h2 := (bits_nat .u64 64 (by decide) (fun n h0 h1 => IntWalk.u64_in n ⟨h0, by omega⟩) (h / 8589934592) 16777215 (by omega) (by decide)).1
  refine ⟨(h / 8589934592) &&& 16777215, by rw [h1]; exact h2, ?_⟩
  have := Nat.and_le_right (n := h / 8589934592) (m := 16777215)
  omega
def RetN (s : Nat) (A : Option Addr) (n c : Nat) (zs : List Int) (k : Int) (w : World) (e : Ending) (w' : World) : Prop := ∃ r : Int, e = .returned (I r) ∧ (1 ≤ k → 0 ≤ r ∧ r < k) ∧ (k < 1 → r = 0) ∧ Src w' s A n c zs ∧ w.grownBy w' (some s)
set_option maxHeartbeats 2000000 in
theorem next_any {s : Nat} {A : Option Addr} {n c : Nat} {zs : List Int} (k : Int) (w : World) (hS : Src w s A n c zs) :
    Calls Tryz.prog 56 #[.pointer (some ⟨s, 0, none⟩), I k] w (RetN s A n c zs k w) := by
  obtain ⟨a, h, ha, hh, hbl⟩ := hS.blk
  have hc := hS.code
  have hl := hS.len
  have Hnb := Lib.hid hS.nb
  have c0 := hbl.cell 0
  have c1 := hbl.cell 1
  have c2 := hbl.cell 2
  have z2 := hbl.frozen 2
  simp only [List.getElem?_toArray, List.getElem?_cons_zero, List.getElem?_cons_succ] at c0 c1 c2
  have HS := Lib.hid hS
  have Hbl := Lib.hid hbl
  clear hS hbl
  by_cases hk : k < 1
  · go_enter Tryz.func56, Tryz.ntmps56
    go_wp2_with fail
    go_ret
    exact ⟨0, rfl, fun h => by omega, fun _ => rfl, HS.out, World.grownBy.refl w _⟩
  · obtain ⟨h2, e1, hh2⟩ : ∃ h2 : Nat, IntKind.u64.wrap (IntKind.u64.wrap ((h : Int) * 6364136223846793005) + 1442695040888963407) = (h2 : Int) ∧ h2 < 18446744073709551616 := u64_some _
    obtain ⟨x, e2, hx⟩ := and24 hh2
    have e3 : wrap64 (x : Int) = (x : Int) := IntWalk.wrap64_in _ ⟨by omega, by omega⟩
    obtain ⟨w1, hw1⟩ : ∃ w1, w1 = w.setCell ⟨s, 2, none⟩ (.int .u64 h2) := ⟨_, rfl⟩
    have b1 : Blk w1 s TSrc #[.slice A n c, I a, .int .u64 h2] := by rw [hw1]; exact Hbl.out.set_ 2 _
    have l1 := b1.lt
    have B1 := Lib.hid b1
    have Hc := Lib.hid hc
    have Hl := Lib.hid hl
    have Hg1 : Hid (w.grownBy w1 (some s)) := by show World.grownBy _ _ _; rw [hw1]; exact grown_set w _ _
    have Hw1 := Lib.hid hw1
    have hs1 : s ≤ w.heap.size := Nat.le_of_lt HS.out.lt
    have hkk : 1 ≤ k := by omega
    clear hw1 b1 hc hl hk
    by_cases han : a < n
    · have hanz : (a : Int) < (n : Int) := by omega
      go_enter Tryz.func56, Tryz.ntmps56
      go_wp2_with fail
      rw [← Hw1.out]
      refine wp_region_same [] rfl (by kernel_rfl) (by kernel_rfl) (by kernel_rfl) (fun w' => Below w1.heap.size w1 w') _
        [.pointer (some ⟨s, 0, none⟩), .pointer (some ⟨s, 0, none⟩), .pointer (some ⟨s, 1, none⟩), I a, .pointer (some ⟨s, 0, none⟩), .pointer (some ⟨s, 0, none⟩), .pointer (some ⟨s, 0, none⟩), .slice A n c, I n, .bool true]
        (by simp only [putAll, List.setIfInBounds_toArray, List.set_cons_succ, List.set_cons_zero]; rfl) (Below.refl _ _).drew ?hop ?hQ
      case hop =>
        refine FixBL.toL (fun w' w'' hS hb => hS.trans (hb.mono hS.size)) _ _ ?_
        refine ⟨.inr ?_, .inr ?_, .inr ?_, .inr ?_, .inr ?_, .inr ?_, .inr ?_, .inr ?_, .inr ?_, .inr ?_, trivial⟩
        · (with_reducible refine FixB.of ?_ ?_; rfl; intro w' hS; have s9 := B1.out.below hS l1; have s0 := s9.cell 0; have s1 := s9.cell 1; simp only [List.getElem?_toArray, List.getElem?_cons_zero, List.getElem?_cons_succ] at s0 s1; clear s9 hS; unfold Oper.wp; go_simp; first | done | exact Below.refl _ _)
        · (with_reducible refine FixB.of ?_ ?_; rfl; intro w' hS; have s9 := B1.out.below hS l1; have s0 := s9.cell 0; have s1 := s9.cell 1; simp only [List.getElem?_toArray, List.getElem?_cons_zero, List.getElem?_cons_succ] at s0 s1; clear s9 hS; unfold Oper.wp; go_simp; first | done | exact Below.refl _ _)
        · (with_reducible refine FixB.of ?_ ?_; rfl; intro w' hS; have s9 := B1.out.below hS l1; have s0 := s9.cell 0; have s1 := s9.cell 1; simp only [List.getElem?_toArray, List.getElem?_cons_zero, List.getElem?_cons_succ] at s0 s1; clear s9 hS; unfold Oper.wp; go_simp; first | done | exact Below.refl _ _)
        · (with_reducible refine FixB.of ?_ ?_; rfl; intro w' hS; have s9 := B1.out.below hS l1; have s0 := s9.cell 0; have s1 := s9.cell 1; simp only [List.getElem?_toArray, List.getElem?_cons_zero, List.getElem?_cons_succ] at s0 s1; clear s9 hS; unfold Oper.wp; go_simp; first | done | exact Below.refl _ _)
        · (with_reducible refine FixB.of ?_ ?_; rfl; intro w' hS; have s9 := B1.out.below hS l1; have s0 := s9.cell 0; have s1 := s9.cell 1; simp only [List.getElem?_toArray, List.getElem?_cons_zero, List.getElem?_cons_succ] at s0 s1; clear s9 hS; unfold Oper.wp; go_simp; first | done | exact Below.refl _ _)
        · (with_reducible refine FixB.of ?_ ?_; rfl; intro w' hS; have s9 := B1.out.below hS l1; have s0 := s9.cell 0; have s1 := s9.cell 1; simp only [List.getElem?_toArray, List.getElem?_cons_zero, List.getElem?_cons_succ] at s0 s1; clear s9 hS; unfold Oper.wp; go_simp; first | done | exact Below.refl _ _)
        · (with_reducible refine FixB.of ?_ ?_; rfl; intro w' hS; have s9 := B1.out.below hS l1; have s0 := s9.cell 0; have s1 := s9.cell 1; simp only [List.getElem?_toArray, List.getElem?_cons_zero, List.getElem?_cons_succ] at s0 s1; clear s9 hS; unfold Oper.wp; go_simp; first | done | exact Below.refl _ _)
        · (with_reducible refine FixB.of ?_ ?_; rfl; intro w' hS; have s9 := B1.out.below hS l1; have s0 := s9.cell 0; have s1 := s9.cell 1; simp only [List.getElem?_toArray, List.getElem?_cons_zero, List.getElem?_cons_succ] at s0 s1; clear s9 hS; unfold Oper.wp; go_simp; first | done | exact Below.refl _ _)
        · (with_reducible refine FixB.of ?_ ?_; rfl; intro w' hS; have s9 := B1.out.below hS l1; have s0 := s9.cell 0; have s1 := s9.cell 1; simp only [List.getElem?_toArray, List.getElem?_cons_zero, List.getElem?_cons_succ] at s0 s1; clear s9 hS; unfold Oper.wp; go_simp; first | done | exact Below.refl _ _)
        · (with_reducible refine FixB.of ?_ ?_; rfl; intro w' hS; have s9 := B1.out.below hS l1; have s0 := s9.cell 0; have s1 := s9.cell 1; simp only [List.getElem?_toArray, List.getElem?_cons_zero, List.getElem?_cons_succ] at s0 s1; clear s9 hS; unfold Oper.wp; go_simp; first | done | exact Below.refl _ _)
      case hQ =>
      intro wc hS _
      have HB2 := Lib.hid hS
      clear hS
      obtain ⟨w2, hw2⟩ : ∃ w2, w2 = wc := ⟨_, rfl⟩
      rw [← hw2] at HB2 ⊢
      have hg2 : w.grownBy w2 (some s) := grown_trans Hg1.out (grown_below HB2.out _)
      have b2 := B1.out.below HB2.out l1
      have l2 := b2.lt
      have hcod := Hc.out.below (bel_s hg2 hs1)
      obtain ⟨b, off, rfl, hbs, hcz⟩ := hcod.at_ (k := a) (by rw [Hl.out]; exact han)
      have hzv := hcod.val (k := a) (by rw [Hl.out]; exact han)
      have lb : b < w2.heap.size := by omega
      obtain ⟨z, hz⟩ : ∃ z, z = gi zs a := ⟨_, rfl⟩
      rw [← hz] at hcz hzv
      obtain ⟨y, hy⟩ : ∃ y : Int, y = (x : Int) + z := ⟨_, rfl⟩
      have hyy : (x : Int) + z = y := hy.symm
      have hy0 : 0 ≤ y := by omega
      have hyb : y < 16777472 := by omega
      have hwz : IntKind.i64.wrap z = z := IntWalk.i64_in _ ⟨by omega, by omega⟩
      have hwy : IntKind.i64.wrap y = y := IntWalk.i64_in _ ⟨by omega, by omega⟩
      have Cz := Lib.hid hcz
      have B2 := Lib.hid b2
      have Hg2 := Lib.hid hg2
      clear hw2 hcz b2 hcod hz hy hg2
      go_wp2_with fail
      refine wp_region_sameX [] rfl (by kernel_rfl) (by kernel_rfl) [5] (by kernel_rfl) (fun w' => Below w2.heap.size w2 w') _
        [I x, .pointer (some ⟨s, 0, none⟩), .pointer (some ⟨s, 0, none⟩), .pointer (some ⟨s, 0, none⟩), .slice (some ⟨b, off, none⟩) n c, .pointer (some ⟨s, 0, none⟩), .pointer (some ⟨s, 0, none⟩), .pointer (some ⟨s, 1, none⟩), I a, .pointer (some ⟨b, off + a, none⟩), .int .u8 z, I z, I y, I y]
        (by simp only [putAll, List.setIfInBounds_toArray, List.set_cons_succ, List.set_cons_zero]; rfl) [(5, I x)] rfl _
        (by simp only [setAll, List.setIfInBounds_toArray, List.set_cons_succ, List.set_cons_zero]; rfl) (by kernel_rfl) (fun w' w'' hS hb => hS.trans (hb.mono hS.size)) (Below.refl _ _).drew ?hop ?hQ
      case hop =>
        refine ⟨?_, ?_, ?_, ?_, ?_, ?_, ?_, ?_, ?_, ?_, ?_, ?_, ?_, ?_, trivial⟩
        · (refine FixX.of (by first | rfl | kernel_rfl | (simp [Region.wanted, yielded]; done)) ?_; intro w' hS; have s9 := B2.out.below hS l2; have s0 := s9.cell 0; have s1 := s9.cell 1; simp only [List.getElem?_toArray, List.getElem?_cons_zero, List.getElem?_cons_succ] at s0 s1; have s2 := (hS.cell (p := ⟨b, off + a, none⟩) lb).trans Cz.out; clear s9 hS; unfold Oper.wp; go_simp; first | done | exact Below.refl _ _ | exact ⟨rfl, Below.refl _ _⟩ | exact ⟨rfl, (fun t ht => by injection ht with ht; subst ht; rfl), Below.refl _ _⟩)
        · (refine FixX.of (by first | rfl | kernel_rfl | (simp [Region.wanted, yielded]; done)) ?_; intro w' hS; have s9 := B2.out.below hS l2; have s0 := s9.cell 0; have s1 := s9.cell 1; simp only [List.getElem?_toArray, List.getElem?_cons_zero, List.getElem?_cons_succ] at s0 s1; have s2 := (hS.cell (p := ⟨b, off + a, none⟩) lb).trans Cz.out; clear s9 hS; unfold Oper.wp; go_simp; first | done | exact Below.refl _ _ | exact ⟨rfl, Below.refl _ _⟩ | exact ⟨rfl, (fun t ht => by injection ht with ht; subst ht; rfl), Below.refl _ _⟩)
        · (refine FixX.of (by first | rfl | kernel_rfl | (simp [Region.wanted, yielded]; done)) ?_; intro w' hS; have s9 := B2.out.below hS l2; have s0 := s9.cell 0; have s1 := s9.cell 1; simp only [List.getElem?_toArray, List.getElem?_cons_zero, List.getElem?_cons_succ] at s0 s1; have s2 := (hS.cell (p := ⟨b, off + a, none⟩) lb).trans Cz.out; clear s9 hS; unfold Oper.wp; go_simp; first | done | exact Below.refl _ _ | exact ⟨rfl, Below.refl _ _⟩ | exact ⟨rfl, (fun t ht => by injection ht with ht; subst ht; rfl), Below.refl _ _⟩)
        · (refine FixX.of (by first | rfl | kernel_rfl | (simp [Region.wanted, yielded]; done)) ?_; intro w' hS; have s9 := B2.out.below hS l2; have s0 := s9.cell 0; have s1 := s9.cell 1; simp only [List.getElem?_toArray, List.getElem?_cons_zero, List.getElem?_cons_succ] at s0 s1; have s2 := (hS.cell (p := ⟨b, off + a, none⟩) lb).trans Cz.out; clear s9 hS; unfold Oper.wp; go_simp; first | done | exact Below.refl _ _ | exact ⟨rfl, Below.refl _ _⟩ | exact ⟨rfl, (fun t ht => by injection ht with ht; subst ht; rfl), Below.refl _ _⟩)
        · (refine FixX.of (by first | rfl | kernel_rfl | (simp [Region.wanted, yielded]; done)) ?_; intro w' hS; have s9 := B2.out.below hS l2; have s0 := s9.cell 0; have s1 := s9.cell 1; simp only [List.getElem?_toArray, List.getElem?_cons_zero, List.getElem?_cons_succ] at s0 s1; have s2 := (hS.cell (p := ⟨b, off + a, none⟩) lb).trans Cz.out; clear s9 hS; unfold Oper.wp; go_simp; first | done | exact Below.refl _ _ | exact ⟨rfl, Below.refl _ _⟩ | exact ⟨rfl, (fun t ht => by injection ht with ht; subst ht; rfl), Below.refl _ _⟩)
        · (refine FixX.of (by first | rfl | kernel_rfl | (simp [Region.wanted, yielded]; done)) ?_; intro w' hS; have s9 := B2.out.below hS l2; have s0 := s9.cell 0; have s1 := s9.cell 1; simp only [List.getElem?_toArray, List.getElem?_cons_zero, List.getElem?_cons_succ] at s0 s1; have s2 := (hS.cell (p := ⟨b, off + a, none⟩) lb).trans Cz.out; clear s9 hS; unfold Oper.wp; go_simp; first | done | exact Below.refl _ _ | exact ⟨rfl, Below.refl _ _⟩ | exact ⟨rfl, (fun t ht => by injection ht with ht; subst ht; rfl), Below.refl _ _⟩)
        · (refine FixX.of (by first | rfl | kernel_rfl | (simp [Region.wanted, yielded]; done)) ?_; intro w' hS; have s9 := B2.out.below hS l2; have s0 := s9.cell 0; have s1 := s9.cell 1; simp only [List.getElem?_toArray, List.getElem?_cons_zero, List.getElem?_cons_succ] at s0 s1; have s2 := (hS.cell (p := ⟨b, off + a, none⟩) lb).trans Cz.out; clear s9 hS; unfold Oper.wp; go_simp; first | done | exact Below.refl _ _ | exact ⟨rfl, Below.refl _ _⟩ | exact ⟨rfl, (fun t ht => by injection ht with ht; subst ht; rfl), Below.refl _ _⟩)
        · (refine FixX.of (by first | rfl | kernel_rfl | (simp [Region.wanted, yielded]; done)) ?_; intro w' hS; have s9 := B2.out.below hS l2; have s0 := s9.cell 0; have s1 := s9.cell 1; simp only [List.getElem?_toArray, List.getElem?_cons_zero, List.getElem?_cons_succ] at s0 s1; have s2 := (hS.cell (p := ⟨b, off + a, none⟩) lb).trans Cz.out; clear s9 hS; unfold Oper.wp; go_simp; first | done | exact Below.refl _ _ | exact ⟨rfl, Below.refl _ _⟩ | exact ⟨rfl, (fun t ht => by injection ht with ht; subst ht; rfl), Below.refl _ _⟩)
        · (refine FixX.of (by first | rfl | kernel_rfl | (simp [Region.wanted, yielded]; done)) ?_; intro w' hS; have s9 := B2.out.below hS l2; have s0 := s9.cell 0; have s1 := s9.cell 1; simp only [List.getElem?_toArray, List.getElem?_cons_zero, List.getElem?_cons_succ] at s0 s1; have s2 := (hS.cell (p := ⟨b, off + a, none⟩) lb).trans Cz.out; clear s9 hS; unfold Oper.wp; go_simp; first | done | exact Below.refl _ _ | exact ⟨rfl, Below.refl _ _⟩ | exact ⟨rfl, (fun t ht => by injection ht with ht; subst ht; rfl), Below.refl _ _⟩)
        · (refine FixX.of (by first | rfl | kernel_rfl | (simp [Region.wanted, yielded]; done)) ?_; intro w' hS; have s9 := B2.out.below hS l2; have s0 := s9.cell 0; have s1 := s9.cell 1; simp only [List.getElem?_toArray, List.getElem?_cons_zero, List.getElem?_cons_succ] at s0 s1; have s2 := (hS.cell (p := ⟨b, off + a, none⟩) lb).trans Cz.out; clear s9 hS; unfold Oper.wp; go_simp; first | done | exact Below.refl _ _ | exact ⟨rfl, Below.refl _ _⟩ | exact ⟨rfl, (fun t ht => by injection ht with ht; subst ht; rfl), Below.refl _ _⟩)
        · (refine FixX.of (by first | rfl | kernel_rfl | (simp [Region.wanted, yielded]; done)) ?_; intro w' hS; have s9 := B2.out.below hS l2; have s0 := s9.cell 0; have s1 := s9.cell 1; simp only [List.getElem?_toArray, List.getElem?_cons_zero, List.getElem?_cons_succ] at s0 s1; have s2 := (hS.cell (p := ⟨b, off + a, none⟩) lb).trans Cz.out; clear s9 hS; unfold Oper.wp; go_simp; first | done | exact Below.refl _ _ | exact ⟨rfl, Below.refl _ _⟩ | exact ⟨rfl, (fun t ht => by injection ht with ht; subst ht; rfl), Below.refl _ _⟩)
        · (refine FixX.of (by first | rfl | kernel_rfl | (simp [Region.wanted, yielded]; done)) ?_; intro w' hS; have s9 := B2.out.below hS l2; have s0 := s9.cell 0; have s1 := s9.cell 1; simp only [List.getElem?_toArray, List.getElem?_cons_zero, List.getElem?_cons_succ] at s0 s1; have s2 := (hS.cell (p := ⟨b, off + a, none⟩) lb).trans Cz.out; clear s9 hS; unfold Oper.wp; go_simp; first | done | exact Below.refl _ _ | exact ⟨rfl, Below.refl _ _⟩ | exact ⟨rfl, (fun t ht => by injection ht with ht; subst ht; rfl), Below.refl _ _⟩)
        · (refine FixX.of (by first | rfl | kernel_rfl | (simp [Region.wanted, yielded]; done)) ?_; intro w' hS; have s9 := B2.out.below hS l2; have s0 := s9.cell 0; have s1 := s9.cell 1; simp only [List.getElem?_toArray, List.getElem?_cons_zero, List.getElem?_cons_succ] at s0 s1; have s2 := (hS.cell (p := ⟨b, off + a, none⟩) lb).trans Cz.out; clear s9 hS; unfold Oper.wp; go_simp; first | done | exact Below.refl _ _ | exact ⟨rfl, Below.refl _ _⟩ | exact ⟨rfl, (fun t ht => by injection ht with ht; subst ht; rfl), Below.refl _ _⟩)
        · (refine FixX.of (by first | rfl | kernel_rfl | (simp [Region.wanted, yielded]; done)) ?_; intro w' hS; have s9 := B2.out.below hS l2; have s0 := s9.cell 0; have s1 := s9.cell 1; simp only [List.getElem?_toArray, List.getElem?_cons_zero, List.getElem?_cons_succ] at s0 s1; have s2 := (hS.cell (p := ⟨b, off + a, none⟩) lb).trans Cz.out; clear s9 hS; unfold Oper.wp; go_simp; first | done | exact Below.refl _ _ | exact ⟨rfl, Below.refl _ _⟩ | exact ⟨rfl, (fun t ht => by injection ht with ht; subst ht; rfl), Below.refl _ _⟩)
      case hQ =>
      intro wc hS
      have HB3 := Lib.hid hS
      clear hS
      have b3 := B2.out.below HB3.out l2
      have c1 := b3.cell 1
      have z1 := b3.frozen 1
      simp only [List.getElem?_toArray, List.getElem?_cons_zero, List.getElem?_cons_succ] at c1
      have B3 := Lib.hid b3
      have Hg3 := Lib.hid (grown_trans Hg2.out (grown_below HB3.out _))
      obtain ⟨r, hr⟩ : ∃ r, y.tmod k = r := ⟨_, rfl⟩
      have hr0 : 0 ≤ r ∧ r < k := by rw [← hr]; exact ⟨Int.tmod_nonneg k hy0, Int.tmod_lt_of_pos y (by omega)⟩
      clear b3
      have hry : r ≤ y := by
        rw [← hr, Int.tmod_eq_emod_of_nonneg hy0]
        by_cases e : k ≤ y
        · have := Int.emod_lt_of_pos y (show 0 < k by omega)
          omega
        · rw [Int.emod_eq_of_lt hy0 (by omega)]; exact Int.le_refl _
      have hwr : IntKind.i64.wrap r = r := IntWalk.i64_in _ ⟨by omega, by omega⟩
      have hk0 : ¬ (k = 0) := by omega
      have hwa : wrap64 ((a : Int) + 1) = (a : Int) + 1 := IntWalk.wrap64_in _ (by have := Hnb.out; exact ⟨by omega, by omega⟩)
      have hb4 : Blk (wc.setCell ⟨s, 1, none⟩ (I ((a : Int) + 1))) s TSrc #[.slice (some ⟨b, off, none⟩) n c, I ((a + 1 : Nat) : Int), .int .u64 h2] := (B3.out.set_ 1 (I ((a : Int) + 1))).cast (by simp only [List.setIfInBounds_toArray, List.set_cons_succ, List.set_cons_zero]; rw [show ((a : Int) + 1) = ((a + 1 : Nat) : Int) by omega])
      have Hb4 := Lib.hid hb4
      clear hb4 hyb hy0 hzv hyy hry
      have Hg4 := Lib.hid (grown_trans Hg3.out (grown_set wc ⟨s, 1, none⟩ (I ((a : Int) + 1))))
      go_wp2_with fail
      go_ret
      refine ⟨r, rfl, fun _ => hr0, fun h => absurd hkk (Int.not_le.2 h), ⟨⟨a + 1, h2, Nat.succ_le_of_lt han, hh2, Hb4.out⟩, Hc.out.below (bel_s Hg4.out hs1), Hl.out, Hnb.out⟩, Hg4.out⟩
    · have hanz : ¬ ((a : Int) < (n : Int)) := by omega
      go_enter Tryz.func56, Tryz.ntmps56
      go_wp2_with fail
      rw [← Hw1.out]
      refine wp_region_same [] rfl (by kernel_rfl) (by kernel_rfl) (by kernel_rfl) (fun w' => Below w1.heap.size w1 w') _
        [.pointer (some ⟨s, 0, none⟩), .pointer (some ⟨s, 0, none⟩), .pointer (some ⟨s, 1, none⟩), I a, .pointer (some ⟨s, 0, none⟩), .pointer (some ⟨s, 0, none⟩), .pointer (some ⟨s, 0, none⟩), .slice A n c, I n, .bool false]
        (by simp only [putAll, List.setIfInBounds_toArray, List.set_cons_succ, List.set_cons_zero]; rfl) (Below.refl _ _).drew ?hop ?hQ
      case hop =>
        refine FixBL.toL (fun w' w'' hS hb => hS.trans (hb.mono hS.size)) _ _ ?_
        refine ⟨.inr ?_, .inr ?_, .inr ?_, .inr ?_, .inr ?_, .inr ?_, .inr ?_, .inr ?_, .inr ?_, .inr ?_, trivial⟩
        · (with_reducible refine FixB.of ?_ ?_; rfl; intro w' hS; have s9 := B1.out.below hS l1; have s0 := s9.cell 0; have s1 := s9.cell 1; simp only [List.getElem?_toArray, List.getElem?_cons_zero, List.getElem?_cons_succ] at s0 s1; clear s9 hS; unfold Oper.wp; go_simp; first | done | exact Below.refl _ _)
        · (with_reducible refine FixB.of ?_ ?_; rfl; intro w' hS; have s9 := B1.out.below hS l1; have s0 := s9.cell 0; have s1 := s9.cell 1; simp only [List.getElem?_toArray, List.getElem?_cons_zero, List.getElem?_cons_succ] at s0 s1; clear s9 hS; unfold Oper.wp; go_simp; first | done | exact Below.refl _ _)
        · (with_reducible refine FixB.of ?_ ?_; rfl; intro w' hS; have s9 := B1.out.below hS l1; have s0 := s9.cell 0; have s1 := s9.cell 1; simp only [List.getElem?_toArray, List.getElem?_cons_zero, List.getElem?_cons_succ] at s0 s1; clear s9 hS; unfold Oper.wp; go_simp; first | done | exact Below.refl _ _)
        · (with_reducible refine FixB.of ?_ ?_; rfl; intro w' hS; have s9 := B1.out.below hS l1; have s0 := s9.cell 0; have s1 := s9.cell 1; simp only [List.getElem?_toArray, List.getElem?_cons_zero, List.getElem?_cons_succ] at s0 s1; clear s9 hS; unfold Oper.wp; go_simp; first | done | exact Below.refl _ _)
        · (with_reducible refine FixB.of ?_ ?_; rfl; intro w' hS; have s9 := B1.out.below hS l1; have s0 := s9.cell 0; have s1 := s9.cell 1; simp only [List.getElem?_toArray, List.getElem?_cons_zero, List.getElem?_cons_succ] at s0 s1; clear s9 hS; unfold Oper.wp; go_simp; first | done | exact Below.refl _ _)
        · (with_reducible refine FixB.of ?_ ?_; rfl; intro w' hS; have s9 := B1.out.below hS l1; have s0 := s9.cell 0; have s1 := s9.cell 1; simp only [List.getElem?_toArray, List.getElem?_cons_zero, List.getElem?_cons_succ] at s0 s1; clear s9 hS; unfold Oper.wp; go_simp; first | done | exact Below.refl _ _)
        · (with_reducible refine FixB.of ?_ ?_; rfl; intro w' hS; have s9 := B1.out.below hS l1; have s0 := s9.cell 0; have s1 := s9.cell 1; simp only [List.getElem?_toArray, List.getElem?_cons_zero, List.getElem?_cons_succ] at s0 s1; clear s9 hS; unfold Oper.wp; go_simp; first | done | exact Below.refl _ _)
        · (with_reducible refine FixB.of ?_ ?_; rfl; intro w' hS; have s9 := B1.out.below hS l1; have s0 := s9.cell 0; have s1 := s9.cell 1; simp only [List.getElem?_toArray, List.getElem?_cons_zero, List.getElem?_cons_succ] at s0 s1; clear s9 hS; unfold Oper.wp; go_simp; first | done | exact Below.refl _ _)
        · (with_reducible refine FixB.of ?_ ?_; rfl; intro w' hS; have s9 := B1.out.below hS l1; have s0 := s9.cell 0; have s1 := s9.cell 1; simp only [List.getElem?_toArray, List.getElem?_cons_zero, List.getElem?_cons_succ] at s0 s1; clear s9 hS; unfold Oper.wp; go_simp; first | done | exact Below.refl _ _)
        · (with_reducible refine FixB.of ?_ ?_; rfl; intro w' hS; have s9 := B1.out.below hS l1; have s0 := s9.cell 0; have s1 := s9.cell 1; simp only [List.getElem?_toArray, List.getElem?_cons_zero, List.getElem?_cons_succ] at s0 s1; clear s9 hS; unfold Oper.wp; go_simp; first | done | exact Below.refl _ _)
      case hQ =>
      intro wc hS _
      have HB2 := Lib.hid hS
      clear hS
      have hg2 : w.grownBy wc (some s) := grown_trans Hg1.out (grown_below HB2.out _)
      have b2 := B1.out.below HB2.out l1
      have B2 := Lib.hid b2
      have Hg2 := Lib.hid hg2
      obtain ⟨r, hr⟩ : ∃ r, (x : Int).tmod k = r := ⟨_, rfl⟩
      have hr0 : 0 ≤ r ∧ r < k := by rw [← hr]; exact ⟨Int.tmod_nonneg k (by omega), Int.tmod_lt_of_pos _ (by omega)⟩
      have hry : r ≤ (x : Int) := by
        rw [← hr, Int.tmod_eq_emod_of_nonneg (by omega)]
        by_cases e : k ≤ (x : Int)
        · have := Int.emod_lt_of_pos (x : Int) (show 0 < k by omega)
          omega
        · rw [Int.emod_eq_of_lt (by omega) (by omega)]; exact Int.le_refl _
      have hwr : IntKind.i64.wrap r = r := IntWalk.i64_in _ ⟨by omega, by omega⟩
      have hk0 : ¬ (k = 0) := by omega
      clear b2 hg2
      go_wp2_with fail
      go_ret
      exact ⟨r, rfl, fun _ => hr0, fun h => absurd hkk (Int.not_le.2 h), ⟨⟨a, h2, ha, hh2, B2.out⟩, Hc.out.below (bel_s Hg2.out hs1), Hl.out, Hnb.out⟩, Hg2.out⟩
end Go.Proofs.YtahamedecibmnaaGreat

namespace Go.Proofs.YtahamedecibmnaaGreat
open Go.ChangeShapes Go.WideShapes Go.ChangeAt Go.RowKit
open Go.ChangeMaps (open_string shut_string)
set_option maxRecDepth 100000
theorem ownKnob0 : ownKnob Tryz.prog.godebug = none := by kernel_rfl
theorem laidOut : laidOutB Tryz.prog = true := by kernel_rfl
section
variable {H : Type} {enc : TypeId × Value → H} {w : World} {base : Nat} {spare : Nat → Bool} {held : Bool}
end
/-! ### the program's make: its order of starting is a long text, read once -/
theorem viaL {P : List Char → Prop} {s : String} {L : List Char} (h : s = String.ofList L) (hp : P L) : P s.toList := by rw [h, String.toList_ofList]; exact hp
theorem make_of {P : Program} {rest : List (List Char)} (h : behindMainWord (wordsSigns P.initOrder.toList) = "cut".toList :: rest) : P.make = some .cut := by
  unfold Program.make
  rw [h]
  kernel_rfl
theorem mayEnter_of {P : Program} {rest : List (List Char)} (h : behindMainWord (wordsSigns P.initOrder.toList) = "cut".toList :: rest) (h1 : P.laysLater = false) (h2 : P.bearsReflect = false) (h3 : P.doorFits [] = true) : P.mayEnter = true := by
  unfold Program.mayEnter
  rw [h]
  have e : stripLifts liftWords ("cut".toList :: rest) = ([], "cut".toList :: rest) := by kernel_rfl
  simp only [e, h1, h2, h3]
  simp
theorem lifts_of {P : Program} {rest : List (List Char)} (h : behindMainWord (wordsSigns P.initOrder.toList) = "cut".toList :: rest) : P.liftsFinal = false := by
  unfold Program.liftsFinal Program.headLifts
  rw [h]
  kernel_rfl
theorem wordsI : ∃ rest, behindMainWord (wordsSigns Tryz.pinned.checked.prog.initOrder.toList) = "cut".toList :: rest :=
  ⟨_, viaL (P := fun l => behindMainWord (wordsSigns l) = "cut".toList :: (behindMainWord (wordsSigns l)).tail) (s := Tryz.prog.initOrder) rfl (by kernel_rfl)⟩
theorem makeT : Tryz.pinned.checked.prog.make = some .cut := by
  obtain ⟨r, h⟩ := wordsI
  exact make_of h
theorem mayEnterT : Tryz.pinned.checked.prog.mayEnter = true := by
  obtain ⟨r, h⟩ := wordsI
  exact mayEnter_of h (by kernel_rfl) (by kernel_rfl) (by kernel_rfl)
theorem liftsT : Tryz.pinned.checked.prog.liftsFinal = false := by
  obtain ⟨r, h⟩ := wordsI
  exact lifts_of h
theorem laidT : laidOutB Tryz.pinned.checked.prog = true := by kernel_rfl
end Go.Proofs.YtahamedecibmnaaGreat

namespace Go.Proofs.YtahamedecibmnaaGreat
open Go.ChangeShapes Go.WideShapes Go.ChangeAt Go.RowKit
open Go.ChangeMaps (open_string shut_string)
set_option maxRecDepth 100000
section
variable {H : Type} {enc : TypeId × Value → H} {w : World} {base : Nat} {spare : Nat → Bool} {held : Bool}
theorem spot_of_cell {a : Addr} {u : Value} (h : w.cell? a = some u) : a.spot = none := by
  unfold World.cell? at h
  split at h
  · split at h
    · cases h
    · rename_i hs; simpa using hs
  · cases h
end
end Go.Proofs.YtahamedecibmnaaGreat

namespace Go.Proofs.YtahamedecibmnaaGreat
open Go.RowKit
set_option maxRecDepth 100000
def mcs (ms : List M) : List Value := ms.flatMap fun m => (mc m).toList
def gm (ms : List M) (k : Nat) : M := ms.getD k M0
theorem mcs_cons (m : M) (ms : List M) : mcs (m :: ms) = (mc m).toList ++ mcs ms := by simp [mcs]
theorem gm_eq {ms : List M} {k : Nat} (hk : k < ms.length) : gm ms k = ms[k] := by simp [gm, List.getD, hk]
theorem gm_cons_succ (m : M) (ms : List M) (k : Nat) : gm (m :: ms) (k + 1) = gm ms k := by simp [gm]
theorem mcs_get : ∀ {ms : List M} {k j : Nat}, k < ms.length → j < 6 → (mcs ms)[k * 6 + j]? = (mc (gm ms k)).toList[j]?
  | [], k, _, h, _ => by simp at h
  | m :: ms, 0, j, _, hj => by
    rw [mcs_cons, List.getElem?_append_left (by simpa using by omega)]
    simp [gm]
  | m :: ms, k + 1, j, h, hj => by
    rw [mcs_cons, List.getElem?_append_right (by simp; omega), gm_cons_succ]
    have := mcs_get (ms := ms) (k := k) (j := j) (by simpa using h) hj
    rw [← this]
    congr 1
    simp; omega
abbrev SixAt (w : World) (g o : Nat) (m : M) : Prop := w.cell? ⟨g, o, none⟩ = some (I m.p) ∧ w.cell? ⟨g, o + 1, none⟩ = some (I m.t0) ∧ w.cell? ⟨g, o + 2, none⟩ = some (I m.t1) ∧ w.cell? ⟨g, o + 3, none⟩ = some (I m.t2) ∧ w.cell? ⟨g, o + 4, none⟩ = some (I m.t3) ∧ w.cell? ⟨g, o + 5, none⟩ = some (I m.t4)
theorem SixAt.lt {w : World} {g o : Nat} {m : M} (h : SixAt w g o m) : g < w.heap.size := World.block_lt_of_cell? w ⟨g, o, none⟩ h.1
theorem SixAt.keep {w w' : World} {g o : Nat} {m : M} (h : SixAt w g o m) (k : ∀ q, w'.cell? ⟨g, q, none⟩ = w.cell? ⟨g, q, none⟩) : SixAt w' g o m :=
  ⟨(k _).trans h.1, (k _).trans h.2.1, (k _).trans h.2.2.1, (k _).trans h.2.2.2.1, (k _).trans h.2.2.2.2.1, (k _).trans h.2.2.2.2.2⟩
theorem SixAt.below {w w' : World} {g o n : Nat} {m : M} (h : SixAt w g o m) (hb : Below n w w') (hg : g < n) : SixAt w' g o m := h.keep fun q => hb.cell (p := ⟨g, q, none⟩) hg
theorem SixAt.alloc {w : World} {g o : Nat} {m : M} (h : SixAt w g o m) (ob : Obj) : SixAt (w.alloc ob) g o m := h.keep fun q => World.cell?_of_block (w := w) (a := ⟨g, q, none⟩) (Below.heap_alloc w ob g h.lt)
theorem SixAt.far {w : World} {g o : Nat} {m : M} (h : SixAt w g o m) {p : Addr} (hp : g ≠ p.block) (u : Value) : SixAt (w.setCell p u) g o m := h.keep fun q => World.cell?_of_block (w := w) (a := ⟨g, q, none⟩) (Below.heap_setCell w p u g hp)
theorem SixAt.st6 {w : World} {g o q : Nat} {m0 : M} (h : SixAt w g o m0) (hq : g ≠ q) (m : M) : SixAt (Go.Proofs.YtahamedecibmnaaGreat.st6 w q m) g o m0 :=
  (((((h.far (p := ⟨q, 0, none⟩) hq _).far (p := ⟨q, 1, none⟩) hq _).far (p := ⟨q, 2, none⟩) hq _).far (p := ⟨q, 3, none⟩) hq _).far (p := ⟨q, 4, none⟩) hq _).far (p := ⟨q, 5, none⟩) hq _
def RdM (w : World) (B : Nat) (A : Option Addr) (ms : List M) : Prop := Rd 6 w B A ms.length (mcs ms)
theorem RdM.at_ {w : World} {B : Nat} {A : Option Addr} {ms : List M} (h : RdM w B A ms) {k : Nat} (hk : k < ms.length) :
    ∃ b off, A = some ⟨b, off, none⟩ ∧ b < B ∧ SixAt w b (off + k * 6) (gm ms k) := by
  obtain ⟨b, off, e, hb, hc⟩ := h.2 (by omega)
  have key : ∀ j u, j < 6 → (mc (gm ms k)).toList[j]? = some u → w.cell? ⟨b, off + k * 6 + j, none⟩ = some u := by
    intro j u hj hu
    rw [← mcs_get hk hj] at hu
    rw [Nat.add_assoc]
    exact hc _ u hu
  exact ⟨b, off, e, hb, key 0 _ (by omega) rfl, key 1 _ (by omega) rfl, key 2 _ (by omega) rfl, key 3 _ (by omega) rfl, key 4 _ (by omega) rfl, key 5 _ (by omega) rfl⟩
def OwM (e : TypeId) (w : World) (B : Nat) (v : Value) (ms : List M) : Prop := w.ownsRow B e 6 v ms.length (mcs ms)
section
variable {e : TypeId} {w w' : World} {B B' : Nat} {v : Value} {ms : List M}
theorem OwM.form (h : OwM e w B v ms) : ∃ A c, v = .slice A ms.length c ∧ RdM w w.heap.size A ms := by
  rcases h.2 with ⟨rfl, h0⟩ | ⟨g, cap, cur, rfl, _⟩
  · have hz : ms = [] := List.eq_nil_of_length_eq_zero h0
    subst hz
    exact ⟨none, 0, rfl, Rd.nil_⟩
  · exact ⟨_, _, rfl, Rd.of_own h⟩
theorem OwM.lt (h : OwM e w B v ms) : ∀ g, v.ownBlock = some g → B ≤ g ∧ g < w.heap.size := World.ownsRow.lt h
theorem OwM.mono (h : OwM e w B v ms) (hB : B' ≤ B) : OwM e w B' v ms := by
  refine ⟨h.1, ?_⟩
  rcases h.2 with hn | ⟨g, cap, cur, hv, hg, rest⟩
  · exact .inl hn
  · exact .inr ⟨g, cap, cur, hv, by omega, rest⟩
theorem OwM.keep (h : OwM e w B v ms) (hk : ∀ g, v.ownBlock = some g → w'.heap[g]? = w.heap[g]?) : OwM e w' B v ms := by
  refine ⟨h.1, ?_⟩
  rcases h.2 with hn | ⟨g, cap, cur, rfl, hg, hh, rest⟩
  · exact .inl hn
  · exact .inr ⟨g, cap, cur, rfl, hg, by rw [hk g rfl]; exact hh, rest⟩
theorem OwM.below {m : Nat} (h : OwM e w B v ms) (hb : Below m w w') (hm : w.heap.size ≤ m) : OwM e w' B v ms :=
  h.keep fun g hg => hb.block g (by have := h.lt g hg; omega)
theorem OwM.alloc (h : OwM e w B v ms) (o : Obj) : OwM e (w.alloc o) B v ms := h.keep fun g hg => Below.heap_alloc w o g (h.lt g hg).2
theorem OwM.drew (h : OwM e w B v ms) : OwM e w.drew B v ms := h
theorem OwM.drewN (h : OwM e w B v ms) (n : Nat) : OwM e (w.drewN n) B v ms := h
theorem OwM.far (h : OwM e w B v ms) {p : Addr} (hp : v.ownBlock ≠ some p.block) (u : Value) : OwM e (w.setCell p u) B v ms :=
  h.keep fun g hg => Below.heap_setCell w p u g (fun e => hp (by rw [hg, e]))
theorem OwM.ne (h : OwM e w B v ms) {g : Nat} (hg : g < B) : some g ≠ v.ownBlock := fun he => by have := h.lt g he.symm; omega
theorem OwM.bel (h : OwM e w B v ms) {n : Nat} {w0 : World} (hb : Below n w0 w) (hg : w.grownBy w' v.ownBlock) (hB : n ≤ B) (hs : n ≤ w.heap.size) : Below n w0 w' :=
  hb.grown hg hs fun k hk => by have := h.lt k hk; omega
theorem OwM.of_heap (h : OwM e w B v ms) (hh : w'.heap = w.heap) : OwM e w' B v ms := h.keep fun g _ => by rw [hh]
theorem OwM.nil_ : OwM e w B (.slice none 0 0) [] := World.ownsRow_nil w B e 6
theorem OwM.made (hb : B ≤ w.heap.size) : OwM e (w.alloc (.cells #[] e)) B (.slice (some ⟨w.heap.size, 0, none⟩) 0 0) [] :=
  World.ownsRow_made w #[] 0 hb (by simp [maxLen]) (by simp)
theorem OwM.one {m : M} (hb : B ≤ w.heap.size) : OwM e (w.alloc (.cells (mc m) e)) B (.slice (some ⟨w.heap.size, 0, none⟩) 1 1) [m] :=
  ⟨by simp [mcs], .inr ⟨w.heap.size, 1, mc m, rfl, hb, heap_alloc_new w _, Nat.le_refl _, by simp [maxLen], rfl, by simp [mcs]⟩⟩
end
end Go.Proofs.YtahamedecibmnaaGreat

namespace Go.Proofs.YtahamedecibmnaaGreat
open Go.ChangeShapes Go.WideShapes Go.ChangeAt Go.RowKit
open Go.ChangeMaps (open_string shut_string)
set_option maxRecDepth 100000
set_option linter.unusedSimpArgs false
set_option linter.unusedVariables false
theorem cellsT8 : Tryz.prog.cellsOf T8 = 1 := by kernel_rfl
theorem wf_u8 {z : Int} (h : (Lit.int IntKind.u8 z).wf = true) : 0 ≤ z ∧ z < 256 := by
  have h' := h
  simp [Lit.wf] at h'
  have e1 : IntKind.u8.min = 0 := rfl
  have e2 : IntKind.u8.max = 255 := rfl
  omega
section
variable {H : Type} {enc : TypeId × Value → H} {w : World} {base : Nat} {spare : Nat → Bool} {held : Bool}
theorem open_bytes {r : Reach} {b0 : Nat} {v : Value} {d : DataW H} {p : List MemPlace} (hv : Value.okWide Tryz.prog w r b0 22 v) (h : DataW.Trod enc Tryz.prog w base spare held 22 v d p) :
    ∃ (A : Option Addr) (n c : Nat) (zs : List Int), v = .slice A n c ∧ (zs.length = n ∧ RdU w w.heap.size A zs) := by
  obtain ⟨A, n, c, rfl⟩ := okWide_slice Tryz.underlying22 hv
  obtain ⟨fuel, hf⟩ := h
  rcases open_ints Tryz.underlying22 Tryz.underlying5 cellsT8 hf with ⟨hcs, _⟩ | ⟨a, len, cap, zs, hcs, _, hl, _, hz, _, hc, hwf⟩
  · simp [Value.cells] at hcs
    obtain ⟨rfl, rfl, rfl⟩ := hcs
    exact ⟨none, 0, 0, [], rfl, rfl, Rd.nil_, by simp⟩
  · simp [Value.cells] at hcs
    obtain ⟨rfl, rfl, rfl⟩ := hcs
    have hle : n ≤ zs.length := by rw [hz]; split <;> omega
    have hlen : (zs.take n).length = n := by simp; omega
    refine ⟨some a, n, c, zs.take n, rfl, hlen, ⟨by simp [cU], fun h0 => ?_⟩, fun z hzm => wf_u8 (hwf z (List.mem_of_mem_take hzm))⟩
    rw [hlen] at h0
    have h1 := hc 0 (by omega)
    have e0 : a.add 0 = a := rfl
    rw [e0] at h1
    have hs := spot_of_cell h1
    refine ⟨a.block, a.off, by rw [← hs], World.block_lt_of_cell? w a h1, fun j u hu => ?_⟩
    have hj : j < (zs.take n).length := by
      rcases Nat.lt_or_ge j (zs.take n).length with h | h
      · exact h
      · rw [List.getElem?_eq_none (by rw [cU_len]; exact h)] at hu; cases hu
    have hu2 : u = .int .u8 (gi (zs.take n) j) := by
      rw [cU, List.getElem?_map, List.getElem?_eq_getElem hj] at hu
      injection hu with hu
      rw [← hu]
      simp [gi, List.getD, hj]
      rw [List.getElem?_eq_getElem (by simpa using hj)]
      simp
    subst hu2
    rw [hlen] at hj
    have h2 := hc j (by omega)
    have e : a.add j = ⟨a.block, a.off + j, none⟩ := by
      unfold Addr.add
      split
      · rename_i h; subst h; rw [← hs]; rfl
      · rfl
    rw [e] at h2
    rw [h2]
    simp [gi, List.getD, hj]
end
theorem RdU.on {w w' : World} {B : Nat} {A : Option Addr} {zs : List Int} (h : RdU w B A zs) (hb : Below B w w') (hB : B ≤ w'.heap.size := by exact hb.size) : RdU w' w'.heap.size A zs := ⟨Rd.more (Rd.below h.1 hb) hB, h.2⟩
theorem RdI.on {w w' : World} {A : Option Addr} {ms : List Int} (h : RdI w w.heap.size A ms) (hb : Below w.heap.size w w') : RdI w' w'.heap.size A ms := Rd.more (Rd.below h hb) hb.size
theorem Blk.on {w w' : World} {g : Nat} {t : TypeId} {cs : Array Value} (h : Blk w g t cs) (hb : Below w.heap.size w w') : Blk w' g t cs := h.below hb h.lt
theorem OwI.len {e : TypeId} {w : World} {B : Nat} {v : Value} {zs : List Int} {N : Nat} (h : OwI e w B v zs) (hN : zs.length = N) : ∃ A c, v = .slice A N c ∧ RdI w w.heap.size A zs := by
  obtain ⟨A, c, rfl, hr⟩ := h.form
  exact ⟨A, c, by rw [hN], hr⟩
theorem RdI.all {w : World} {B : Nat} {A : Option Addr} {zs : List Int} (h : RdI w B A zs) (h0 : 0 < zs.length) :
    ∃ b off, A = some ⟨b, off, none⟩ ∧ b < B ∧ ∀ k, k < zs.length → w.cell? ⟨b, off + k, none⟩ = some (I (gi zs k)) := by
  obtain ⟨b, off, e, hb, hc⟩ := h.2 h0
  exact ⟨b, off, e, hb, fun k hk => hc k _ (cI_get hk)⟩
theorem big_any (A : Option Addr) (n c : Nat) (w : World) :
    Calls Tryz.prog 4 #[.slice A n c] w fun e w' => e = .returned (.bool (decide (4096 < n))) ∧ Below w.heap.size w w' := by
  go_enter Tryz.func4, Tryz.ntmps4
  go_wp2
  go_ret
  exact ⟨by congr 2; simp; omega, Below.refl _ _⟩
theorem likeInts_same (A C : Option Addr) (n c d : Nat) (ms : List Int) (w : World) (hn : ms.length = n) (hx : RdI w w.heap.size A ms) (hy : RdI w w.heap.size C ms) (hb : n < 1073741824) :
    Calls Tryz.prog 18 #[.slice A n c, .slice C n d] w fun e w' => e = .returned (.bool true) ∧ Below w.heap.size w w' := by
  have hbe : ((n : Int) != (n : Int)) = false := by simp
  have Hn := Lib.hid hn
  clear hn
  go_enter Tryz.func18, Tryz.ntmps18
  go_wp2
  go_loopw [5] (fun i wr => ∃ k : Nat, k ≤ n ∧ i = .int .i64 k ∧ RdI wr w.heap.size A ms ∧ RdI wr w.heap.size C ms ∧ Below w.heap.size w wr) (fun i _ => n - (intOf i).toNat)
  case atStart => exact ⟨0, by omega, rfl, hx, hy, Below.refl _ _⟩
  case round =>
    clear hx hy
    obtain ⟨k, hk, rfl, hx, hy, hbel⟩ := hrel
    by_cases hlt : k < n
    · obtain ⟨b, off, rfl, hbb, s1⟩ := RdI.at_ hx (k := k) (by rw [Hn.out]; exact hlt)
      obtain ⟨b', off', rfl, hbb', s2⟩ := RdI.at_ hy (k := k) (by rw [Hn.out]; exact hlt)
      have h0 : (0 : Int) ≤ (k : Int) := by omega
      have h1 : (k : Int) < (n : Int) := by omega
      have hsz := hbel.size
      have lb : b < wr.heap.size := by omega
      have lb' : b' < wr.heap.size := by omega
      have Hx := Lib.hid hx
      have Hy := Lib.hid hy
      have S1 := Lib.hid s1
      have S2 := Lib.hid s2
      have Hbel := Lib.hid hbel
      clear hx hy hbel s1 s2
      go_wp2_with fail
      refine wp_region_same [] rfl (by kernel_rfl) (by kernel_rfl) (by kernel_rfl) (fun w' => Below wr.heap.size wr w') _
        [.slice (some ⟨b, off, none⟩) n c, I k, .pointer (some ⟨b, off + k, none⟩), I (gi ms k), .slice (some ⟨b', off', none⟩) n d, I k, .pointer (some ⟨b', off' + k, none⟩), I (gi ms k), .bool false]
        (by simp only [putAll, List.setIfInBounds_toArray, List.set_cons_succ, List.set_cons_zero]; rfl) (Below.refl _ _).drew ?hop ?hQ
      case hop =>
        refine FixBL.toL (fun w' w'' hS hb => hS.trans (hb.mono hS.size)) _ _ ?_
        refine ⟨.inr ?_, .inr ?_, .inr ?_, .inr ?_, .inr ?_, .inr ?_, .inr ?_, .inr ?_, .inr ?_, trivial⟩
        · (with_reducible refine FixB.of ?_ ?_; rfl; intro w' hS; have s0 := (hS.cell (p := ⟨b, off + k, none⟩) lb).trans S1.out; have s1 := (hS.cell (p := ⟨b', off' + k, none⟩) lb').trans S2.out; clear hS; unfold Oper.wp; go_simp; first | done | exact Below.refl _ _)
        · (with_reducible refine FixB.of ?_ ?_; rfl; intro w' hS; have s0 := (hS.cell (p := ⟨b, off + k, none⟩) lb).trans S1.out; have s1 := (hS.cell (p := ⟨b', off' + k, none⟩) lb').trans S2.out; clear hS; unfold Oper.wp; go_simp; first | done | exact Below.refl _ _)
        · (with_reducible refine FixB.of ?_ ?_; rfl; intro w' hS; have s0 := (hS.cell (p := ⟨b, off + k, none⟩) lb).trans S1.out; have s1 := (hS.cell (p := ⟨b', off' + k, none⟩) lb').trans S2.out; clear hS; unfold Oper.wp; go_simp; first | done | exact Below.refl _ _)
        · (with_reducible refine FixB.of ?_ ?_; rfl; intro w' hS; have s0 := (hS.cell (p := ⟨b, off + k, none⟩) lb).trans S1.out; have s1 := (hS.cell (p := ⟨b', off' + k, none⟩) lb').trans S2.out; clear hS; unfold Oper.wp; go_simp; first | done | exact Below.refl _ _)
        · (with_reducible refine FixB.of ?_ ?_; rfl; intro w' hS; have s0 := (hS.cell (p := ⟨b, off + k, none⟩) lb).trans S1.out; have s1 := (hS.cell (p := ⟨b', off' + k, none⟩) lb').trans S2.out; clear hS; unfold Oper.wp; go_simp; first | done | exact Below.refl _ _)
        · (with_reducible refine FixB.of ?_ ?_; rfl; intro w' hS; have s0 := (hS.cell (p := ⟨b, off + k, none⟩) lb).trans S1.out; have s1 := (hS.cell (p := ⟨b', off' + k, none⟩) lb').trans S2.out; clear hS; unfold Oper.wp; go_simp; first | done | exact Below.refl _ _)
        · (with_reducible refine FixB.of ?_ ?_; rfl; intro w' hS; have s0 := (hS.cell (p := ⟨b, off + k, none⟩) lb).trans S1.out; have s1 := (hS.cell (p := ⟨b', off' + k, none⟩) lb').trans S2.out; clear hS; unfold Oper.wp; go_simp; first | done | exact Below.refl _ _)
        · (with_reducible refine FixB.of ?_ ?_; rfl; intro w' hS; have s0 := (hS.cell (p := ⟨b, off + k, none⟩) lb).trans S1.out; have s1 := (hS.cell (p := ⟨b', off' + k, none⟩) lb').trans S2.out; clear hS; unfold Oper.wp; go_simp; first | done | exact Below.refl _ _)
        · (with_reducible refine FixB.of ?_ ?_; rfl; intro w' hS; have s0 := (hS.cell (p := ⟨b, off + k, none⟩) lb).trans S1.out; have s1 := (hS.cell (p := ⟨b', off' + k, none⟩) lb').trans S2.out; clear hS; unfold Oper.wp; go_simp; first | done | exact Below.refl _ _)
      case hQ =>
      intro wc hS _
      have HB := Lib.hid hS
      clear hS
      have Hx2 := Lib.hid (Rd.below' Hx.out HB.out Hbel.out.size)
      have Hy2 := Lib.hid (Rd.below' Hy.out HB.out Hbel.out.size)
      have Hb2 := Lib.hid (Hbel.out.trans (HB.out.mono Hbel.out.size))
      clear S1 S2 Hx Hy Hbel
      go_wp2
      go_roundw
      case rel => exact ⟨k + 1, by omega, by go_num, Hx2.out, Hy2.out, Hb2.out⟩
      case measure => simp [intOf]; omega
    · go_wp2
      go_ret
      exact ⟨rfl, hbel⟩
theorem hasInt_any (A : Option Addr) (n c : Nat) (zs : List Int) (x : Int) (w : World) (hn : zs.length = n) (hx : RdI w w.heap.size A zs) (hb : n < 1073741824) (hm : x ∈ zs) :
    Calls Tryz.prog 20 #[.slice A n c, I x] w fun e w' => e = .returned (.bool true) ∧ Below w.heap.size w w' := by
  obtain ⟨q, hq, hq2⟩ : ∃ q, q < n ∧ gi zs q = x := by
    obtain ⟨q, hq, e⟩ := List.getElem_of_mem hm
    exact ⟨q, by omega, by rw [gi_eq hq]; exact e⟩
  have Hn := Lib.hid hn
  have Hx := Lib.hid hx
  have Hq2 := Lib.hid hq2
  clear hn hx hm hq2
  go_enter Tryz.func20, Tryz.ntmps20
  go_wp2
  go_loopw [5] (fun i wr => ∃ k : Nat, k ≤ q ∧ i = .int .i64 k ∧ Below w.heap.size w wr) (fun i _ => n - (intOf i).toNat)
  case atStart => exact ⟨0, by omega, rfl, Below.refl _ _⟩
  case round =>
    obtain ⟨k, hk, rfl, hbel⟩ := hrel
    obtain ⟨b, off, rfl, hbb, s1⟩ := RdI.at_ (Rd.below Hx.out hbel) (k := k) (by rw [Hn.out]; omega)
    have i0 : (0 : Int) ≤ (k : Int) := by omega
    have i1 : (k : Int) < (n : Int) := by omega
    have Hb := Lib.hid hbel
    clear hbel
    by_cases he : gi zs k = x
    · have heq : (gi zs k == x) = true := by simpa using he
      clear he
      go_wp2
      go_ret
      exact ⟨rfl, Hb.out⟩
    · have heq : (gi zs k == x) = false := by simpa using he
      have hkq : k < q := by
        rcases Nat.lt_or_ge k q with h | h
        · exact h
        · obtain rfl : k = q := by omega
          exact absurd Hq2.out he
      clear he
      go_wp2
      go_roundw
      case rel => exact ⟨k + 1, by omega, by go_num, Hb.out⟩
      case measure => simp [intOf]; omega
end Go.Proofs.YtahamedecibmnaaGreat

namespace Go.Proofs.YtahamedecibmnaaGreat
open Go.RowKit
set_option maxRecDepth 100000
theorem l01List_any (f : M) (w : World) (hf : Valid f) :
    Calls Tryz.prog 54 #[.agg (mc f)] w fun e w' => ∃ v, e = .returned v ∧ OwI 2 w' w.heap.size v (imgs f f.p.toNat) ∧ Below w.heap.size w w' := by
  have hp1 := hf.p1
  have hp5 := hf.p5
  go_enter Tryz.func54, Tryz.ntmps54
  go_wp2
  go_loopw [3, 4] (fun v i wr => ∃ k : Nat, (k : Int) ≤ f.p ∧ i = .int .i64 k ∧ OwI 2 wr (w.heap.size + 1) v (imgs f k) ∧ Blk wr w.heap.size 26 (mc f) ∧ Below w.heap.size w wr) (fun _ i _ => 5 - (intOf i).toNat)
  case atStart => exact ⟨0, by omega, rfl, OwI.made' (by simp) (Nat.le_refl _), (Blk.new _ _ _).alloc _, by (repeat (first | with_reducible assumption | with_reducible exact Below.refl _ _ | with_reducible refine Below.setCell ?_ (by first | omega | (simp <;> omega)) _ | with_reducible refine Below.alloc ?_ (by first | omega | (simp <;> omega)) _ | with_reducible refine Below.drew ?_ | with_reducible refine Below.drewN ?_ _))⟩
  case round =>
    obtain ⟨k, hk, rfl, hown, hB, hbel⟩ := hrel
    obtain ⟨A, c, rfl, _⟩ := hown.form
    have c0 : wr.cell? ⟨w.heap.size, 0, none⟩ = some (I f.p) := hB.cell 0
    by_cases hlt : (k : Int) < f.p
    · have c1 := hB.at_ (k := k) (by omega)
      go_wp2_with (at_builtin; refine wpList_pushI rfl (.tmp 12) (.tmp 17) rfl (w.heap.size + 1) _ (imgs f k) rfl (hown.alloc _) wr.heap.size 1 (f.at k) rfl ((Blk.new _ _ _).cell 0) (by rw [imgs_length]; omega) (by have := hbel.size; simp; omega) (wr.heap.size + 1) (by simp) ?_; intro g' cap w1 hown' hgr hg' hlt')
      go_roundw
      case rel => exact ⟨k + 1, by omega, by go_num, by rw [imgs_succ]; simpa using hown', (hB.alloc _).grown hgr (hown.ne (by omega)), hown.alloc _ |>.bel (hbel.alloc hbel.size _) hgr (by omega) (by have := hbel.size; simp; omega)⟩
      case measure => simp [intOf]; omega
    · obtain rfl : k = f.p.toNat := by omega
      go_wp2
      go_ret
      exact ⟨_, rfl, hown.mono (by omega), hbel⟩
theorem Clone_any (b off c : Nat) (ys : List Int) (w : World) (hy : RdI w w.heap.size (some ⟨b, off, none⟩) ys) (hpos : 0 < ys.length) (hn : ys.length < 1073741824) :
    Calls Tryz.prog 69 #[.slice (some ⟨b, off, none⟩) ys.length c] w fun e w' => ∃ g cap, e = .returned (.slice (some ⟨g, 0, none⟩) ys.length cap) ∧ OwI 2 w' w.heap.size (.slice (some ⟨g, 0, none⟩) ys.length cap) ys ∧ Below w.heap.size w w' := by
  have hnil := fun w => Lib.run_eql_slice_nil (P := Tryz.prog) w 37 2 (some ⟨b, off, none⟩) ys.length c 0 0 Tryz.underlying37
  go_enter Tryz.func69, Tryz.ntmps69
  go_wp2_with (at_builtin; refine wpList_appI rfl (.tmp 5) (.tmp 6) rfl w.heap.size _ [] rfl (OwI.made' rfl (Nat.le_refl _)) b off c ys rfl (Rd.more (Rd.alloc hy (Nat.le_refl _) _) (by simp)) hpos (by simpa using hn) (by simp) (w.heap.size + 1) (by simp) ?_; intro g' cap w1 hown' hgr hg' hlt')
  go_ret
  refine ⟨g', cap, by simp, by simpa using hown', ?_⟩
  exact (OwI.made' rfl (Nat.le_refl _) : OwI 2 _ w.heap.size _ []).bel (by (repeat (first | with_reducible assumption | with_reducible exact Below.refl _ _ | with_reducible refine Below.setCell ?_ (by first | omega | (simp <;> omega)) _ | with_reducible refine Below.alloc ?_ (by first | omega | (simp <;> omega)) _ | with_reducible refine Below.drew ?_ | with_reducible refine Below.drewN ?_ _))) hgr (Nat.le_refl _) (by simp)
theorem rd_box {w : World} {g : Nat} {t : TypeId} {f : M} {B : Nat} (h : Blk w g t (mc f)) (hg : g < B) {n : Nat} (hn : n ≤ 5) : RdI w B (some ⟨g, 1, none⟩) (imgs f n) := by
  refine ⟨by simp [cI], fun _ => ⟨g, 1, rfl, hg, fun j u hu => ?_⟩⟩
  have hj : j < (imgs f n).length := by
    rcases Nat.lt_or_ge j (imgs f n).length with h | h
    · exact h
    · rw [List.getElem?_eq_none (by rw [cI_length]; exact h)] at hu; cases hu
  rw [cI_get hj] at hu
  injection hu with hu
  subst hu
  rw [imgs_length] at hj
  rw [h.at_ (by omega)]
  simp [gi, imgs, List.getD, hj]
theorem slc1 (g : Nat) (w : World) : (Instr.sliceAt 24 (.pointer (some ⟨g, 1, none⟩)) none (some (I 1)) none).run Tryz.prog w = .ok (.slice (some ⟨g, 1, none⟩) 1 5) w := by kernel_rfl
theorem slc2 (g : Nat) (w : World) : (Instr.sliceAt 24 (.pointer (some ⟨g, 1, none⟩)) none (some (I 2)) none).run Tryz.prog w = .ok (.slice (some ⟨g, 1, none⟩) 2 5) w := by kernel_rfl
theorem slc3 (g : Nat) (w : World) : (Instr.sliceAt 24 (.pointer (some ⟨g, 1, none⟩)) none (some (I 3)) none).run Tryz.prog w = .ok (.slice (some ⟨g, 1, none⟩) 3 5) w := by kernel_rfl
theorem slc4 (g : Nat) (w : World) : (Instr.sliceAt 24 (.pointer (some ⟨g, 1, none⟩)) none (some (I 4)) none).run Tryz.prog w = .ok (.slice (some ⟨g, 1, none⟩) 4 5) w := by kernel_rfl
theorem slc5 (g : Nat) (w : World) : (Instr.sliceAt 24 (.pointer (some ⟨g, 1, none⟩)) none (some (I 5)) none).run Tryz.prog w = .ok (.slice (some ⟨g, 1, none⟩) 5 5) w := by kernel_rfl
theorem slice5 (g : Nat) (p : Int) (h1 : 1 ≤ p) (h5 : p ≤ 5) : ∀ w, (Instr.sliceAt 24 (.pointer (some ⟨g, 1, none⟩)) none (some (I p)) none).run Tryz.prog w = .ok (.slice (some ⟨g, 1, none⟩) p.toNat 5) w := by
  intro w
  have h : p = 1 ∨ p = 2 ∨ p = 3 ∨ p = 4 ∨ p = 5 := by omega
  rcases h with rfl | rfl | rfl | rfl | rfl
  · exact slc1 g w
  · exact slc2 g w
  · exact slc3 g w
  · exact slc4 g w
  · exact slc5 g w
theorem images_any (f : M) (w : World) (hf : Valid f) :
    Calls Tryz.prog 42 #[.agg (mc f)] w fun e w' => ∃ v, e = .returned v ∧ OwI 2 w' w.heap.size v (imgs f f.p.toNat) ∧ Below w.heap.size w w' := by
  have hp1 := hf.p1
  have hp5 := hf.p5
  have hl := imgs_length f f.p.toNat
  have hr := rd_box (B := w.heap.size + 1) (Blk.new w 26 (mc f)) (by omega) (n := f.p.toNat) (by omega)
  have hsl := slice5 w.heap.size f.p hp1 hp5
  have Hr := Lib.hid hr
  have Hl := Lib.hid hl
  clear hr hl
  go_enter Tryz.func42, Tryz.ntmps42
  go_wp2_with fail
  have hlen := Hl.out
  have hcl := Clone_any w.heap.size 1 5 (imgs f f.p.toNat) (w.alloc (.cells (mc f) 26)) (by simpa using Hr.out) (by omega) (by omega)
  rw [hlen] at hcl
  clear hlen
  refine hcl.mono ?_
  rintro e w1 ⟨g, cap, rfl, hown, hb⟩
  go_wp2
  go_ret
  exact ⟨_, rfl, hown.mono (by simp), Below.trans (by (repeat (first | with_reducible assumption | with_reducible exact Below.refl _ _ | with_reducible refine Below.setCell ?_ (by first | omega | (simp <;> omega)) _ | with_reducible refine Below.alloc ?_ (by first | omega | (simp <;> omega)) _ | with_reducible refine Below.drew ?_ | with_reducible refine Below.drewN ?_ _))) (hb.mono (by simp))⟩
def imgsR (f : M) : List Int := if isMap f then imgs f f.p.toNat else []
theorem ImplImages_any (f : M) (w : World) :
    Calls Tryz.prog 13 #[.agg (mc f)] w fun e w' => ∃ v, e = .returned (.tuple #[v, I (cInv (isMap f))]) ∧ OwI 2 w' w.heap.size v (imgsR f) ∧ Below w.heap.size w w' := by
  cases hm : isMap f
  · have Hr : Hid (imgsR f = []) := by show _ = _; simp [imgsR, hm]
    go_enter Tryz.func13, Tryz.ntmps13
    go_wp2_with (go_at_call 8; refine (isMap_any _ _).mono ?_; rintro e w1 ⟨rfl, hb⟩)
    go_ret2
    exact ⟨_, rfl, by rw [Hr.out]; exact OwI.nil_, Below.trans (by (repeat (first | with_reducible assumption | with_reducible exact Below.refl _ _ | with_reducible refine Below.setCell ?_ (by first | omega | (simp <;> omega)) _ | with_reducible refine Below.alloc ?_ (by first | omega | (simp <;> omega)) _ | with_reducible refine Below.drew ?_ | with_reducible refine Below.drewN ?_ _))) (hb.mono (by simp))⟩
  · have hf := (isMap_iff f).1 hm
    have Hr : Hid (imgsR f = imgs f f.p.toNat) := by show _ = _; simp [imgsR, hm]
    go_enter Tryz.func13, Tryz.ntmps13
    go_wp2_with fail
    refine (isMap_any _ _).mono ?_
    rintro e w1 ⟨rfl, hb⟩
    have hl : Below w.heap.size w w1 := Below.trans (by (repeat (first | with_reducible assumption | with_reducible exact Below.refl _ _ | with_reducible refine Below.setCell ?_ (by first | omega | (simp <;> omega)) _ | with_reducible refine Below.alloc ?_ (by first | omega | (simp <;> omega)) _ | with_reducible refine Below.drew ?_ | with_reducible refine Below.drewN ?_ _))) (hb.mono (by simp))
    have hs : Six w1 w.heap.size f := Six.below (Blk.six (Blk.new w _ _)) hb (by simp)
    clear hb
    go_wp2_with fail
    refine (images_any _ _ hf).mono ?_
    rintro e w2 ⟨v, rfl, ho, hb⟩
    go_wp2
    go_ret2
    exact ⟨_, rfl, by rw [Hr.out]; exact ho.mono hl.size, hl.trans (hb.mono hl.size)⟩
theorem SpecImages_any (f : M) (w : World) :
    Calls Tryz.prog 32 #[.agg (mc f)] w fun e w' => ∃ v, e = .returned (.tuple #[v, I (cInv (isMap f))]) ∧ OwI 2 w' w.heap.size v (imgsR f) ∧ Below w.heap.size w w' := by
  cases hm : isMap f
  · have Hr : Hid (imgsR f = []) := by show _ = _; simp [imgsR, hm]
    go_enter Tryz.func32, Tryz.ntmps32
    go_wp2_with (go_at_call 39; refine (l01Is_any _ _).mono ?_; rintro e w1 ⟨rfl, hb⟩)
    go_ret2
    exact ⟨_, rfl, by rw [Hr.out]; exact OwI.nil_, Below.trans (by (repeat (first | with_reducible assumption | with_reducible exact Below.refl _ _ | with_reducible refine Below.setCell ?_ (by first | omega | (simp <;> omega)) _ | with_reducible refine Below.alloc ?_ (by first | omega | (simp <;> omega)) _ | with_reducible refine Below.drew ?_ | with_reducible refine Below.drewN ?_ _))) (hb.mono (by simp))⟩
  · have hf := (isMap_iff f).1 hm
    have Hr : Hid (imgsR f = imgs f f.p.toNat) := by show _ = _; simp [imgsR, hm]
    go_enter Tryz.func32, Tryz.ntmps32
    go_wp2_with fail
    refine (l01Is_any _ _).mono ?_
    rintro e w1 ⟨rfl, hb⟩
    have hl : Below w.heap.size w w1 := Below.trans (by (repeat (first | with_reducible assumption | with_reducible exact Below.refl _ _ | with_reducible refine Below.setCell ?_ (by first | omega | (simp <;> omega)) _ | with_reducible refine Below.alloc ?_ (by first | omega | (simp <;> omega)) _ | with_reducible refine Below.drew ?_ | with_reducible refine Below.drewN ?_ _))) (hb.mono (by simp))
    have hs : Six w1 w.heap.size f := Six.below (Blk.six (Blk.new w _ _)) hb (by simp)
    clear hb
    go_wp2_with fail
    refine (l01List_any _ _ hf).mono ?_
    rintro e w2 ⟨v, rfl, ho, hb⟩
    go_wp2
    go_ret2
    exact ⟨_, rfl, by rw [Hr.out]; exact ho.mono hl.size, hl.trans (hb.mono hl.size)⟩
theorem imgsR_len (f : M) : (imgsR f).length < 1073741824 := by
  unfold imgsR
  split
  · rename_i h
    have := ((isMap_iff f).1 h).p5
    rw [imgs_length]; omega
  · simp
end Go.Proofs.YtahamedecibmnaaGreat

namespace Go.Proofs.YtahamedecibmnaaGreat
open Go.RowKit
set_option maxRecDepth 100000
def ups (n : Nat) : List Int := (List.range n).map fun k : Nat => (k : Int)
theorem ups_length (n : Nat) : (ups n).length = n := by simp [ups]
theorem ups_succ (n : Nat) : ups (n + 1) = ups n ++ [(n : Int)] := by simp [ups, List.range_succ]
theorem gi_ups {n k : Nat} (h : k < n) : gi (ups n) k = k := by simp [gi, ups, List.getD, h]
theorem points_any (n : Nat) (w : World) (hn : n < 1073741824) :
    Calls Tryz.prog 68 #[.int .i64 n] w fun e w' => ∃ v, e = .returned v ∧ OwI 2 w' w.heap.size v (ups n) ∧ Below w.heap.size w w' := by
  go_enter Tryz.func68, Tryz.ntmps68
  go_wp2
  go_loopw [3, 6] (fun v i wr => ∃ k : Nat, k ≤ n ∧ i = .int .i64 k ∧ OwI 2 wr w.heap.size v (ups k) ∧ Below w.heap.size w wr) (fun _ i _ => n - (intOf i).toNat)
  case atStart => exact ⟨0, by omega, rfl, OwI.nil_, by (repeat (first | with_reducible assumption | with_reducible exact Below.refl _ _ | with_reducible refine Below.setCell ?_ (by first | omega | (simp <;> omega)) _ | with_reducible refine Below.alloc ?_ (by first | omega | (simp <;> omega)) _ | with_reducible refine Below.drew ?_ | with_reducible refine Below.drewN ?_ _))⟩
  case round =>
    obtain ⟨k, hk, rfl, ho, hbel⟩ := hrel
    obtain ⟨A, c, hv, _⟩ := ho.form
    rw [ups_length] at hv
    subst hv
    have hsz := hbel.size
    by_cases hlt : k < n
    · go_wp2_with (at_builtin; refine wpList_pushI rfl (.tmp 9) (.tmp 11) rfl w.heap.size (.slice A k c) (ups k) rfl (ho.alloc _) wr.heap.size 1 k rfl ((Blk.new _ _ _).cell 0) (by rw [ups_length]; omega) (by simp; omega) (wr.heap.size + 1) (by simp) ?_; intro g' cap w4 ho' hgr hg' hlt')
      go_roundw
      case rel => exact ⟨k + 1, by omega, by go_num, by rw [ups_succ]; simpa [ups_length] using ho', (ho.alloc _).bel (hbel.alloc hsz _) hgr (by omega) (by simp; omega)⟩
      case measure => simp [intOf]; omega
    · obtain rfl : k = n := by omega
      go_wp2
      go_ret
      exact ⟨_, rfl, ho, hbel⟩
def idxF (p : Int → Bool) : List Int → Int
  | [] => -1
  | x :: xs => if p x then 0 else (if idxF p xs = -1 then -1 else idxF p xs + 1)
theorem idxF_found {p : Int → Bool} : ∀ {xs : List Int} {k : Nat}, k < xs.length → p (gi xs k) = true → (∀ j, j < k → p (gi xs j) = false) → idxF p xs = k
  | [], k, hk, _, _ => by simp at hk
  | x :: xs, 0, _, h, _ => by simp [gi] at h; simp [idxF, h]
  | x :: xs, k + 1, hk, h, hn => by
    have h0 : p x = false := by have := hn 0 (by omega); simpa [gi] using this
    have ih := idxF_found (p := p) (xs := xs) (k := k) (by simpa using hk) (by simpa [gi] using h) (fun j hj => by have := hn (j + 1) (by omega); simpa [gi] using this)
    unfold idxF
    rw [h0, ih]
    simp <;> omega
theorem idxF_none {p : Int → Bool} : ∀ {xs : List Int}, (∀ j, j < xs.length → p (gi xs j) = false) → idxF p xs = -1
  | [], _ => rfl
  | x :: xs, h => by
    have h0 : p x = false := by have := h 0 (by simp); simpa [gi] using this
    have ih := idxF_none (p := p) (xs := xs) fun j hj => by have := h (j + 1) (by simpa using hj); simpa [gi] using this
    unfold idxF
    rw [h0, ih]
    simp
def Drops (q B : Nat) (w0 : World) (zs : List Int) (p : Int → Bool) : Prop :=
  ∀ w' z, Below B w0 w' → z ∈ zs → Calls Tryz.prog 74 #[I z, .pointer (some ⟨q, 0, none⟩)] w' fun e w'' => e = .returned (.bool (p z)) ∧ Below w'.heap.size w' w''
abbrev dropper (q : Nat) : Value := .func (.func 74) #[] #[.pointer (some ⟨q, 0, none⟩)]
theorem gi_mem {zs : List Int} {k : Nat} (h : k < zs.length) : gi zs k ∈ zs := by rw [gi_eq h]; exact List.getElem_mem h
theorem indexF_any (A : Option Addr) (n c q B : Nat) (zs : List Int) (p : Int → Bool) (w0 w : World) (hx : RdI w w.heap.size A zs) (hn : zs.length = n) (hb : n < 1073741824) (hd : Drops q B w0 zs p) (hw : Below B w0 w) (hBw : B ≤ w.heap.size) :
    Calls Tryz.prog 84 #[.slice A n c, dropper q] w fun e w' => e = .returned (I (idxF p zs)) ∧ Below w.heap.size w w' := by
  have Hn := Lib.hid hn
  have Hx := Lib.hid hx
  clear hn hx
  go_enter Tryz.func84, Tryz.ntmps84
  go_wp2
  go_loopw [8] (fun i wr => ∃ k : Nat, k ≤ n ∧ i = .int .i64 k ∧ Hid (∀ j, j < k → p (gi zs j) = false) ∧ Below w.heap.size w wr) (fun i _ => n - (intOf i).toNat)
  case atStart => exact ⟨0, by omega, rfl, fun j hj => absurd hj (by omega), by (repeat (first | with_reducible assumption | with_reducible exact Below.refl _ _ | with_reducible refine Below.setCell ?_ (by first | omega | (simp <;> omega)) _ | with_reducible refine Below.alloc ?_ (by first | omega | (simp <;> omega)) _ | with_reducible refine Below.drew ?_ | with_reducible refine Below.drewN ?_ _))⟩
  case round =>
    obtain ⟨k, hk, rfl, hg, hbel⟩ := hrel
    by_cases hlt : k < n
    · obtain ⟨b, off, rfl, hbb, c1⟩ := RdI.at_ (Hx.out.below hbel) (k := k) (by rw [Hn.out]; exact hlt)
      have hcall := hd wr (gi zs k) (hw.trans (hbel.mono hBw)) (gi_mem (by rw [Hn.out]; exact hlt))
      have Hc := Lib.hid hcall
      clear hcall
      go_wp2_with fail
      refine Hc.out.mono ?_
      rintro e w2 ⟨rfl, hb2⟩
      replace hbel := hbel.trans (hb2.mono hbel.size)
      clear hb2 c1
      cases hp : p (gi zs k)
      · have Hr : Hid (∀ j, j < k + 1 → p (gi zs j) = false) := by
          intro j hj
          by_cases e : j = k
          · subst e; exact hp
          · exact hg.out j (by omega)
        go_wp2
        go_roundw
        case rel => exact ⟨k + 1, by omega, by go_num, Hr.out, hbel⟩
        case measure => simp [intOf]; omega
      · have Hr : Hid (idxF p zs = k) := idxF_found (by rw [Hn.out]; exact hlt) hp hg.out
        go_wp2
        go_ret
        exact ⟨ret_int Hr.out.symm, hbel⟩
    · have Hr : Hid (idxF p zs = -1) := idxF_none fun j hj => hg.out j (by have := Hn.out; omega)
      go_wp2
      go_ret
      exact ⟨ret_int Hr.out.symm, hbel⟩
theorem OwI.spotD {e : TypeId} {w : World} {B g n c : Nat} {zs : List Int} (h : OwI e w B (.slice (some ⟨g, 0, none⟩) n c) zs) {k : Nat} (hk : k < zs.length) :
    w.cell? ⟨g, k, none⟩ = some (I (gi zs k)) ∧ w.frozen? ⟨g, k, none⟩ = false ∧ g < w.heap.size ∧ B ≤ g ∧ ∀ z, OwI e (w.setCell ⟨g, k, none⟩ (I z)) B (.slice (some ⟨g, 0, none⟩) n c) (zs.set k z) := by
  obtain ⟨g', c', hv, h1, h2, h3, h4, h5⟩ := h.spot hk
  injection hv with hv e2 e3
  injection hv with hv
  injection hv with hv _ _
  subst hv
  exact ⟨h3, h4, h2, h1, h5⟩
theorem OwI.setCells {e : TypeId} {B g n c : Nat} : ∀ (L : List Int) (o : Nat) (w : World) (rs : List Int), OwI e w B (.slice (some ⟨g, 0, none⟩) n c) rs → o + L.length ≤ rs.length →
    ∃ rs', rs'.length = rs.length ∧ rs'.take o = rs.take o ∧ OwI e (w.setCells g o (L.map I)) B (.slice (some ⟨g, 0, none⟩) n c) rs'
  | [], o, w, rs, h, _ => ⟨rs, rfl, rfl, h⟩
  | z :: L, o, w, rs, h, hl => by
    simp only [List.length_cons] at hl
    have h1 := (h.spotD (k := o) (by omega)).2.2.2.2 z
    obtain ⟨rs', e1, e2, e3⟩ := OwI.setCells L (o + 1) _ _ h1 (by simp; omega)
    refine ⟨rs', by simpa using e1, ?_, e3⟩
    have := congrArg (List.take o) e2
    rw [List.take_take, List.take_take, Nat.min_eq_left (by omega), List.take_set_of_le (by omega)] at this
    exact this
theorem OwI.cut {e : TypeId} {w : World} {B g n c : Nat} {zs : List Int} (h : OwI e w B (.slice (some ⟨g, 0, none⟩) n c) zs) {i : Nat} (hi : i ≤ zs.length) : OwI e w B (.slice (some ⟨g, 0, none⟩) i c) (zs.take i) := by
  have hlen : (zs.take i).length = i := by simp; omega
  rcases h.2 with ⟨hv, _⟩ | ⟨g', cap, cur, hv, h1, h2, h3, h4, h5, h6⟩
  · cases hv
  · injection hv with hv e2 e3
    injection hv with hv
    injection hv with hv _ _
    subst hv e3
    refine ⟨by simp [cI], .inr ⟨g, c, cur, by rw [hlen], h1, h2, by omega, h4, h5, ?_⟩⟩
    rw [hlen, Nat.mul_one]
    have := congrArg (List.take i) h6
    rw [List.take_take, Nat.mul_one, Nat.min_eq_left (by omega)] at this
    rw [this]
    simp [cI, List.map_take]
theorem OwI.cap {e : TypeId} {w : World} {B g n c : Nat} {zs : List Int} (h : OwI e w B (.slice (some ⟨g, 0, none⟩) n c) zs) : zs.length = n ∧ n ≤ c := by
  rcases h.2 with ⟨hv, _⟩ | ⟨g', cap, cur, hv, h1, h2, h3, h4, h5, h6⟩
  · cases hv
  · injection hv with hv e2 e3
    subst e2 e3
    exact ⟨rfl, h3⟩
theorem OwI.rd {e : TypeId} {w : World} {B g n c : Nat} {zs : List Int} (h : OwI e w B (.slice (some ⟨g, 0, none⟩) n c) zs) : RdI w w.heap.size (some ⟨g, 0, none⟩) zs := by
  obtain ⟨A, c', hv, hr⟩ := h.form
  injection hv with hA _ _
  rw [hA]
  exact hr
def keepF (p : Int → Bool) (zs : List Int) : List Int := zs.filter fun z => !p z
theorem keepF_snoc {p : Int → Bool} {zs : List Int} {k : Nat} (hk : k < zs.length) : keepF p (zs.take (k + 1)) = keepF p (zs.take k) ++ (if p (gi zs k) then [] else [gi zs k]) := by
  rw [List.take_add_one, keepF, keepF, List.filter_append]
  congr 1
  rw [List.getElem?_eq_getElem hk, gi_eq hk]
  cases h : p zs[k] <;> simp [h]
theorem idxF_keep {p : Int → Bool} : ∀ {zs : List Int}, idxF p zs = -1 → keepF p zs = zs
  | [], _ => rfl
  | x :: xs, h => by
    unfold idxF at h
    cases hp : p x
    · rw [hp] at h
      simp only [Bool.false_eq_true, if_false] at h
      by_cases h1 : idxF p xs = -1
      · have := idxF_keep h1
        unfold keepF at this ⊢
        rw [List.filter_cons]
        simp [hp, this]
      · rw [if_neg h1] at h
        have : ∀ xs : List Int, -1 ≤ idxF p xs := by
          intro xs
          induction xs with
          | nil => simp [idxF]
          | cons y ys ih => unfold idxF; split <;> (try split) <;> omega
        have := this xs
        omega
    · rw [hp] at h; simp at h
theorem idxF_cases (p : Int → Bool) : ∀ zs : List Int, idxF p zs = -1 ∨ ∃ k : Nat, idxF p zs = k ∧ k < zs.length ∧ p (gi zs k) = true ∧ keepF p (zs.take k) = zs.take k
  | [] => .inl rfl
  | x :: xs => by
    cases hp : p x
    · rcases idxF_cases p xs with h | ⟨k, h1, h2, h3, h4⟩
      · left; unfold idxF; rw [hp, h]; rfl
      · right
        refine ⟨k + 1, ?_, by simpa using h2, by simpa [gi] using h3, ?_⟩
        · unfold idxF; rw [hp, h1]; simp <;> omega
        · unfold keepF at h4 ⊢
          rw [List.take_succ_cons, List.filter_cons]
          simp [hp, h4]
    · right
      refine ⟨0, ?_, by simp, by simpa [gi] using hp, rfl⟩
      unfold idxF; rw [hp]; rfl
theorem zeroI : ∀ w, (zeroValue 2).run Tryz.prog w = .ok (I 0) w := fun w => by kernel_rfl
theorem clearI {w : World} {B g n c a : Nat} {rs : List Int} (h : OwI 2 w B (.slice (some ⟨g, 0, none⟩) n c) rs) (hn : rs.length = n) (ha : a < n) (ty : TypeId) (c' : Nat) :
    ∃ w', (Builtin.clear_ #[37] ty #[.slice (some ⟨g, a, none⟩) (n - a) c']).run Tryz.prog w = .ok (.tuple #[]) w' ∧ OwI 2 w' B (.slice (some ⟨g, 0, none⟩) a c) (rs.take a) ∧ Below B w w' := by
  have hB := (h.spotD (k := a) (by omega)).2.2.2.1
  refine ⟨w.setCells g a (List.replicate (n - a) (I 0)), Lib.run_clear_slice w 37 2 ty (I 0) Tryz.underlying37 zeroI rfl rfl g a (n - a) c' (by omega) ?_ ?_, ?_, ?_⟩
  · intro j hj; rw [(h.spotD (k := a + j) (by omega)).1]; rfl
  · intro j hj; exact (h.spotD (k := a + j) (by omega)).2.1
  · obtain ⟨rs', e1, e2, e3⟩ := h.setCells (List.replicate (n - a) 0) a w rs (by simp; omega)
    rw [List.map_replicate] at e3
    rw [← e2]
    exact e3.cut (by omega)
  · have key : ∀ (L : List Value) (o : Nat) (w' : World), Below B w w' → Below B w (w'.setCells g o L) := by
      intro L
      induction L with
      | nil => intro o w' h; exact h
      | cons v L ih => intro o w' h; exact ih (o + 1) _ (h.setCell hB _)
    exact key _ _ _ (Below.refl _ _)
theorem deleteF_any (g n c q B : Nat) (zs : List Int) (p : Int → Bool) (w0 w : World) (ho : OwI 2 w B (.slice (some ⟨g, 0, none⟩) n c) zs) (hb : n < 1073741824) (hd : Drops q B w0 zs p) (hw : Below B w0 w) (hBw : B ≤ w.heap.size) :
    Calls Tryz.prog 73 #[.slice (some ⟨g, 0, none⟩) n c, dropper q] w fun e w' => ∃ v, e = .returned v ∧ OwI 2 w' B v (keepF p zs) ∧ Below B w w' := by
  have hcap := ho.cap
  have Hn := Lib.hid hcap.1
  have hnc := hcap.2
  have Hr := Lib.hid ho.rd
  clear hcap
  go_enter Tryz.func73, Tryz.ntmps73
  go_wp2_with fail
  refine (indexF_any _ n c q B zs p w0 _ Hr.out Hn.out hb hd hw hBw).mono ?_
  rintro e w1 ⟨rfl, hb1⟩
  have ho1 := ho.below hb1 (Nat.le_refl _)
  have hbel := hb1.mono hBw
  clear hb1 ho Hr
  rcases idxF_cases p zs with hi | ⟨k, hi, hk, hpk, hkeep⟩
  · have Hk : Hid (keepF p zs = zs) := idxF_keep hi
    rw [hi]
    clear hi
    go_wp2
    go_ret
    exact ⟨_, rfl, by rw [Hk.out]; exact ho1, hbel⟩
  · rw [hi]
    have hkn : k < n := by have := Hn.out; omega
    have hk0 : ¬ ((k : Int) = -1) := by omega
    have hkb : ((k : Int) == -1) = false := beq_false_of_ne hk0
    have Hrs : Hid (zs.take k = keepF p (zs.take (k + 1))) := by
      show _ = _
      rw [keepF_snoc hk, hpk, hkeep]; simp
    clear hi hpk hkeep hk
    go_wp2_with fail
    go_loopw [5, 6] (fun i j wr => ∃ (a b : Nat) (rs : List Int), i = .int .i64 a ∧ j = .int .i64 b ∧ a < b ∧ b ≤ n ∧ Hid (rs.length = n ∧ rs.take a = keepF p (zs.take b) ∧ ∀ t, b ≤ t → t < n → gi rs t = gi zs t) ∧ OwI 2 wr B (.slice (some ⟨g, 0, none⟩) n c) rs ∧ Below B w wr) (fun _ j _ => n - (intOf j).toNat)
    case atStart => exact ⟨k, k + 1, zs, rfl, by go_num, by omega, by omega, ⟨Hn.out, Hrs.out, fun _ _ _ => rfl⟩, ho1, hbel⟩
    case round =>
      obtain ⟨a, b, rs, rfl, rfl, hab, hbn, Hx, hor, hbel⟩ := hrel
      clear ho1
      by_cases hlt : b < n
      · obtain ⟨c1, _, hgl, hBg, _⟩ := hor.spotD (k := b) (by rw [Hx.out.1]; exact hlt)
        have e1 := Hx.out.2.2 b (Nat.le_refl _) hlt
        rw [e1] at c1
        have hcall := hd wr (gi zs b) (hw.trans hbel) (gi_mem (by rw [Hn.out]; exact hlt))
        have Hc := Lib.hid hcall
        have hsz : B ≤ wr.heap.size := by omega
        clear hcall e1
        go_wp2_with fail
        refine Hc.out.mono ?_
        rintro e w2 ⟨rfl, hb2⟩
        replace hor := hor.below hb2 (Nat.le_refl _)
        replace hbel := hbel.trans (hb2.mono hsz)
        clear hb2 c1
        have hks := keepF_snoc (p := p) (zs := zs) (k := b) (by rw [Hn.out]; exact hlt)
        cases hp : p (gi zs b)
        · rw [hp] at hks
          obtain ⟨c2, z2, hgl2, _, hst⟩ := hor.spotD (k := a) (by rw [Hx.out.1]; omega)
          have Hst := Lib.hid (hst (gi zs b))
          have Hy : Hid ((rs.set a (gi zs b)).length = n ∧ (rs.set a (gi zs b)).take (a + 1) = keepF p (zs.take (b + 1)) ∧ ∀ t, b + 1 ≤ t → t < n → gi (rs.set a (gi zs b)) t = gi zs t) := by
            refine ⟨by simp [Hx.out.1], ?_, fun t h1 h2 => ?_⟩
            · rw [hks, ← Hx.out.2.1, List.take_add_one, List.take_set_of_le (Nat.le_refl _)]
              simp [show a < rs.length by rw [Hx.out.1]; omega]
            · rw [← Hx.out.2.2 t (by omega) h2]
              unfold gi
              simp [List.getD, show ¬ a = t by omega]
          clear hst hks
          go_wp2
          go_roundw
          case rel => exact ⟨a + 1, b + 1, _, by go_num, by go_num, by omega, by omega, Hy, Hst.out, hbel.setCell (by omega) _⟩
          case measure => simp [intOf]; omega
        · rw [hp] at hks
          have Hy : Hid (rs.length = n ∧ rs.take a = keepF p (zs.take (b + 1)) ∧ ∀ t, b + 1 ≤ t → t < n → gi rs t = gi zs t) := by
            refine ⟨Hx.out.1, ?_, fun t h1 h2 => Hx.out.2.2 t (by omega) h2⟩
            rw [hks, Hx.out.2.1]; simp
          clear hks
          go_wp2
          go_roundw
          case rel => exact ⟨a, b + 1, rs, rfl, by go_num, by omega, by omega, Hy, hor, hbel⟩
          case measure => simp [intOf]; omega
      · obtain rfl : b = n := by omega
        have Hres : Hid (keepF p zs = rs.take a) := by
          show _ = _
          rw [Hx.out.2.1, ← Hn.out, List.take_length]
        obtain ⟨w9, hcl, ho9, hb9⟩ := clearI hor Hx.out.1 hab 0 (c - a)
        replace hbel := hbel.trans hb9
        clear hb9 hor
        go_wp2
        go_ret
        exact ⟨_, rfl, by rw [Hres.out]; exact ho9, hbel⟩
end Go.Proofs.YtahamedecibmnaaGreat

namespace Go.Proofs.YtahamedecibmnaaGreat
open Go.RowKit
set_option maxRecDepth 100000
def sel (q : Int → Bool) (n : Nat) : List Int := (ups n).filter q
theorem sel_succ (q : Int → Bool) (n : Nat) : sel q (n + 1) = sel q n ++ (if q n then [(n : Int)] else []) := by
  rw [sel, ups_succ, List.filter_append, sel]
  congr 1
  cases h : q n <;> simp [h]
theorem keep_sel (q : Int → Bool) (n : Nat) : keepF (fun z => !q z) (ups n) = sel q n := by simp [keepF, sel]
theorem sel_length (q : Int → Bool) (n : Nat) : (sel q n).length ≤ n := by
  have := List.length_filter_le q (ups n)
  rw [ups_length] at this
  exact this
theorem ups_mem {n : Nat} {z : Int} (h : z ∈ ups n) : ∃ k : Nat, k < n ∧ z = k := by
  simp [ups] at h
  obtain ⟨k, hk, rfl⟩ := h
  exact ⟨k, hk, rfl⟩
theorem six_at {w : World} {g : Nat} {f : M} (hs : Six w g f) : ∀ j, j < 5 → w.cell? ⟨g, 1 + j, none⟩ = some (I (f.at j)) :=
  five (P := fun j => w.cell? ⟨g, 1 + j, none⟩ = some (I (f.at j))) hs.2.1 hs.2.2.1 hs.2.2.2.1 hs.2.2.2.2.1 hs.2.2.2.2.2
end Go.Proofs.YtahamedecibmnaaGreat
