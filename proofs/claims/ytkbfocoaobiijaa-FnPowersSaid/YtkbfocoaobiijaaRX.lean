/- A region that draws its order, with values of unknown place and flags for what has been done; no conditions beyond those that each theorem states. A region that draws its order, whose values are known, where some slots are read before they are written; no conditions beyond those that each theorem states. -/
import Derived.Test.YtkbfocoaobiijaaReg
namespace Go.Proofs.Ytkbfocoaobiijaa
open Go.RowKit
set_option maxRecDepth 100000

section
variable {P : Program} {ops : Array Oper}
/-- what an operation looks at has been written by operations that it waits for, or (slots of Lw) is written by operations that wait for it; and it waits for earlier ones alone -/
def looksOkX (ops : Array Oper) (Lw : List Nat) : Bool :=
  (List.range ops.size).all fun i =>
    match ops[i]? with
    | none => true
    | some o => (o.after.all fun e => !Region.binds .any e || decide (e.on < i)) &&
      (List.range ops.size).all fun j => match ops[j]? with
        | none => true
        | some p => match p.dst with
          | none => true
          | some d => !(o.looksAt ops).contains d || (if Lw.contains d then p.after.any fun e => Region.binds .any e && e.on == i else o.after.any fun e => Region.binds .any e && e.on == j)
theorem looksOkX_spec {ops : Array Oper} {Lw : List Nat} (h : looksOkX ops Lw = true) {i : Nat} {o : Oper} (ho : ops[i]? = some o) :
    (∀ e ∈ o.after, Region.binds .any e = true → e.on < i) ∧ ∀ (j : Nat) (p : Oper) (d : Nat), ops[j]? = some p → p.dst = some d → d ∈ o.looksAt ops →
      (d ∉ Lw ∧ ∃ e ∈ o.after, Region.binds .any e = true ∧ e.on = j) ∨ (d ∈ Lw ∧ ∃ e ∈ p.after, Region.binds .any e = true ∧ e.on = i) := by
  have hi : i < ops.size := (Array.getElem?_eq_some_iff.1 ho).1
  have h1 := List.all_eq_true.1 h i (List.mem_range.2 hi)
  simp only [ho, Bool.and_eq_true, Array.all_eq_true_iff_forall_mem, Bool.or_eq_true, Bool.not_eq_true', decide_eq_true_eq] at h1
  refine ⟨fun e he hb => (h1.1 e he).resolve_left (by rw [hb]; simp), fun j p d hp hd hl => ?_⟩
  have hj : j < ops.size := (Array.getElem?_eq_some_iff.1 hp).1
  have h2 := List.all_eq_true.1 h1.2 j (List.mem_range.2 hj)
  simp only [hp, hd] at h2
  rw [Bool.or_eq_true] at h2
  rcases h2 with h2 | h2
  · simp [hl] at h2
  · by_cases hL : d ∈ Lw
    · rw [if_pos (by simpa using hL)] at h2
      obtain ⟨k, hk, hb⟩ := Array.any_eq_true.1 h2
      simp only [Bool.and_eq_true, beq_iff_eq] at hb
      exact .inr ⟨hL, p.after[k], Array.getElem_mem hk, hb.1, hb.2⟩
    · rw [if_neg (by simpa using hL)] at h2
      obtain ⟨k, hk, hb⟩ := Array.any_eq_true.1 h2
      simp only [Bool.and_eq_true, beq_iff_eq] at hb
      exact .inl ⟨hL, o.after[k], Array.getElem_mem hk, hb.1, hb.2⟩

/-- the same, where some slots (Lw) are read before they are written: there the operations see the first frame (X is the last frame F with those slots as they were); by its last frame F (which may hang on a ghost c) -/
theorem wp_region_fixX {γ : Type} {id : Nat} {a : Act} {w : World} {Q : Exit → Act → World → Prop} (hm : P.follows .mixedOrders = true) (hns : Region.noSelect ops = true) (Lw : List Nat) (hlook : looksOkX ops Lw = true)
    (F X : γ → Array Value) (hX : ∀ c t, (X c).getD t undef = if t ∈ Lw then a.tmps.getD t undef else (F c).getD t undef) (hXs : ∀ c, (X c).size = a.tmps.size) (S : Array Bool → γ → World → Prop) (c0 : γ) (hS : S (Array.replicate ops.size false) c0 w.drew)
    (hsize : ∀ c, (F c).size = a.tmps.size)
    (hsame : ∀ t, ¬ Pending ops (Array.replicate ops.size false) t → a.tmps.getD t undef = (F c0).getD t undef)
    (hop : ∀ (i : Nat) (o : Oper), ops[i]? = some o → ∀ listed c w', listed.size = ops.size → i ∈ Region.ready .any ops listed → S listed c w' →
      if Region.wanted o (yielded ops (X c)) = true then
        o.wp P ⟨X c, a.defers⟩ w' (fun a' w'' => ∃ c', (a'.defers = a.defers ∧ ∀ t, o.dst = some t → a'.tmps.getD t undef = (F c').getD t undef) ∧ S (listed.setIfInBounds i true) c' w'' ∧ ∀ t, ¬ Pending ops (listed.setIfInBounds i true) t → o.dst ≠ some t → (F c').getD t undef = (F c).getD t undef) (fun _ _ _ => False)
      else False)
    (hQ : ∀ listed c w', (∀ i, i < ops.size → listed.getD i false = true) → S listed c w' → Q .normal ⟨F c, a.defers⟩ w') : (Code.region id ops true).wp P Q a w := by
  refine wp_region_any hm ?_
  have main : ∀ (fuel : Nat) (listed : Array Bool) (b : Act) (w' : World) (c : γ), listed.size = ops.size → ((List.range ops.size).filter fun i => !listed.getD i false).length = fuel →
      b.defers = a.defers → b.tmps.size = a.tmps.size → (∀ t, ¬ Pending ops listed t → b.tmps.getD t undef = (F c).getD t undef) →
      (∀ t, (∀ (j : Nat) (p : Oper), ops[j]? = some p → p.dst = some t → listed.getD j false = false) → b.tmps.getD t undef = a.tmps.getD t undef) →
      (∀ (k : Nat) (p : Oper), ops[k]? = some p → listed.getD k false = true → ∀ e ∈ p.after, Region.binds .any e = true → listed.getD e.on false = true) → S listed c w' → wpAny P .any ops Q fuel listed b w' := by
    intro fuel
    induction fuel with
    | zero =>
      intro listed b w' c hls hcount hbd hbs hagree huntouched hcl hSw
      have hall : ∀ i, i < ops.size → listed.getD i false = true := by
        intro i hi
        have hnil := List.length_eq_zero_iff.1 hcount
        rw [List.filter_eq_nil_iff] at hnil
        have := hnil i (List.mem_range.2 hi)
        simpa using this
      refine ⟨?_, ?_⟩
      · rw [List.eq_nil_iff_forall_not_mem]
        intro i hi
        obtain ⟨h0, o, ho, _⟩ := mem_ready.1 hi
        have hlt : i < ops.size := (Array.getElem?_eq_some_iff.1 ho).1
        have := hall i hlt
        have hi' : i < listed.size := by omega
        simp [hi'] at h0 this
        rw [h0] at this
        cases this
      · have hb : b = ⟨F c, a.defers⟩ := by
          obtain ⟨bt, bd⟩ := b
          simp only at hbd hbs hagree
          subst hbd
          congr 1
          refine Array.ext (by rw [hbs, hsize]) fun t h1 h2 => ?_
          have := hagree t (by rintro ⟨j, o, ho, _, hl⟩; have := hall j (Array.getElem?_eq_some_iff.1 ho).1; rw [hl] at this; cases this)
          simpa [Array.getD, h1, h2] using this
        rw [hb]
        exact hQ listed c w' hall hSw
    | succ fuel ih =>
      intro listed b w' c hls hcount hbd hbs hagree huntouched hcl hSw
      refine ⟨?_, ?_⟩
      · intro hnil
        exfalso
        -- the least operation that is not done may come up
        have hex : ∃ i, i < ops.size ∧ listed.getD i false = false := by
          have hne : ((List.range ops.size).filter fun i => !listed.getD i false) ≠ [] := by
            intro e; rw [e] at hcount; simp at hcount
          obtain ⟨i, hi⟩ := List.exists_mem_of_ne_nil _ hne
          rw [List.mem_filter, List.mem_range] at hi
          exact ⟨i, hi.1, by simpa using hi.2⟩
        obtain ⟨i, ⟨hi, hil⟩, hmin⟩ := exists_least hex
        have ho : ops[i]? = some ops[i] := Array.getElem?_eq_getElem hi
        have hmem : i ∈ Region.ready .any ops listed := by
          refine mem_ready.2 ⟨?_, ops[i], ho, fun e he hbe => ?_⟩
          · have hi' : i < listed.size := by omega
            simp [hi'] at hil ⊢; exact hil
          · have hlt := (looksOkX_spec hlook ho).1 e he hbe
            cases hc : listed.getD e.on false with
            | true => rfl
            | false => exact absurd (hmin e.on ⟨by omega, hc⟩) (by omega)
        rw [hnil] at hmem
        cases hmem
      · intro i hi
        obtain ⟨h0, o, ho, hdeps⟩ := mem_ready.1 hi
        have hlt : i < ops.size := (Array.getElem?_eq_some_iff.1 ho).1
        have hil : i < listed.size := by omega
        have hi0 : listed.getD i false = false := by simp [hil] at h0 ⊢; exact h0
        have hlooks : ∀ d ∈ o.looksAt ops, b.tmps.getD d undef = (X c).getD d undef := by
          intro d hd
          rw [hX]
          have hl := (looksOkX_spec hlook ho).2
          by_cases hdL : d ∈ Lw
          · rw [if_pos hdL]
            refine huntouched d fun j p hp hpd => ?_
            rcases hl j p d hp hpd hd with ⟨h, _⟩ | ⟨_, e, he, hb, hej⟩
            · exact absurd hdL h
            · cases hc : listed.getD j false with
              | false => rfl
              | true =>
                have := hcl j p hp hc e he hb
                rw [hej, hi0] at this
                cases this
          · rw [if_neg hdL]
            refine hagree d ?_
            rintro ⟨j, p, hp, hpd, hjl⟩
            rcases hl j p d hp hpd hd with ⟨_, e, he, hb, hej⟩ | ⟨h, _⟩
            · have := hdeps e he hb
              rw [hej, hjl] at this
              cases this
            · exact hdL h
        have hcount' : ((List.range ops.size).filter fun j => !(listed.setIfInBounds i true).getD j false).length = fuel := by
          have key : ∀ l : List Nat, l.Nodup → i ∈ l → (l.filter fun j => !(listed.setIfInBounds i true).getD j false).length + 1 = (l.filter fun j => !listed.getD j false).length := by
            intro l
            induction l with
            | nil => intro _ h; cases h
            | cons x xs ihl =>
              intro hnd hmem
              rw [List.nodup_cons] at hnd
              by_cases hx : x = i
              · subst hx
                have e1 : (listed.setIfInBounds x true).getD x false = true := by simp [hil]
                have e2 : (xs.filter fun j => !(listed.setIfInBounds x true).getD j false) = xs.filter fun j => !listed.getD j false := by
                  refine List.filter_congr fun j hj => ?_
                  rw [getD_set_ne false (fun e => hnd.1 (by rw [e]; exact hj))]
                rw [List.filter_cons, List.filter_cons, e1, hi0, e2]
                simp
              · have e1 : (listed.setIfInBounds i true).getD x false = listed.getD x false := getD_set_ne false (Ne.symm hx)
                have hmem' : i ∈ xs := by cases hmem with | head => exact absurd rfl hx | tail _ h => exact h
                have := ihl hnd.2 hmem'
                rw [List.filter_cons, List.filter_cons, e1]
                cases listed.getD x false <;> simp <;> simpa using this
          have := key (List.range ops.size) List.nodup_range (List.mem_range.2 hlt)
          omega
        -- the frame at hand and F agree on what the operation looks at
        have heval : ∀ x ∈ o.op.operands, b.eval x = (⟨X c, a.defers⟩ : Act).eval x := by
          intro x hx
          cases x with
          | tmp t =>
            refine hlooks t ?_
            exact List.mem_append_left _ (List.mem_filterMap.2 ⟨.tmp t, by simpa using hx, rfl⟩)
          | const v => rfl
          | global g => rfl
          | func f => rfl
        have hexec : execOp b.eval o = execOp (⟨X c, a.defers⟩ : Act).eval o := execOp_congr o (fun cs bb => Region.noSelect_spec hns i o cs bb ho) heval
        have hwant : Region.wanted o (yielded ops b.tmps) = Region.wanted o (yielded ops (X c)) := by
          unfold Region.wanted
          cases hg : o.guard with
          | none => rfl
          | some gw =>
            obtain ⟨g, want⟩ := gw
            have hy : yielded ops b.tmps g = yielded ops (X c) g := by
              unfold yielded
              cases ht : (ops[g]?).bind (·.dst) with
              | none => rfl
              | some t =>
                have hb := hlooks t (by simp [Oper.looksAt, hg, ht])
                have hsz : b.tmps.size = (X c).size := by rw [hbs, hXs]
                have : b.tmps[t]? = (X c)[t]? := by
                  by_cases h : t < b.tmps.size
                  · have h' : t < (X c).size := Nat.lt_of_lt_of_eq h hsz
                    simp [Array.getD, h, h'] at hb
                    simp [h, h', hb]
                  · rw [Array.getElem?_eq_none (Nat.le_of_not_lt h), Array.getElem?_eq_none (hsz ▸ Nat.le_of_not_lt h)]
                simp only [Option.bind_some, this]
            simp only [hy]
        -- behind the operation
        have hnext : ∀ (v : Value) (w'' : World) (c' : γ), (∀ t, o.dst = some t → ((⟨X c, a.defers⟩ : Act).put o.dst v).tmps.getD t undef = (F c').getD t undef) → (∀ t, ¬ Pending ops (listed.setIfInBounds i true) t → o.dst ≠ some t → (F c').getD t undef = (F c).getD t undef) → S (listed.setIfInBounds i true) c' w'' →
            wpAny P .any ops Q fuel (listed.setIfInBounds i true) (b.put o.dst v) w'' := by
          intro v w'' c' hput hoff hS'
          refine ih _ _ _ c' (by simpa using hls) hcount' ?_ ?_ ?_ ?_ ?_ hS'
          · cases o.dst <;> exact hbd
          · cases o.dst <;> simpa [Act.put] using hbs
          · intro t hp
            by_cases ht : o.dst = some t
            · have h1 : (b.put o.dst v).tmps.getD t undef = ((⟨X c, a.defers⟩ : Act).put o.dst v).tmps.getD t undef := by
                rw [ht]
                have hsz : b.tmps.size = (X c).size := by rw [hbs, hXs]
                simp only [Act.put, Array.getD_eq_getD_getElem?]
                by_cases h : t < b.tmps.size
                · simp [h, show t < (X c).size by omega]
                · rw [Array.getElem?_eq_none (by simp; omega), Array.getElem?_eq_none (by simp; omega)]
              rw [h1, hput t ht]
            · have h1 : (b.put o.dst v).tmps.getD t undef = b.tmps.getD t undef := by
                cases hdst : o.dst with
                | none => rfl
                | some d =>
                  have hne : d ≠ t := fun e => ht (by rw [hdst, e])
                  simp [Act.put, Array.getElem?_setIfInBounds_ne hne]
              rw [h1, hoff t hp ht]
              refine hagree t ?_
              rintro ⟨j, p, hp', hpd, hjl⟩
              refine hp ⟨j, p, hp', hpd, ?_⟩
              have hji : i ≠ j := by
                intro e; subst e
                rw [ho] at hp'; injection hp' with hp'; subst hp'; exact ht hpd
              rw [getD_set_ne false hji]; exact hjl
          · intro t hall
            have hne : o.dst ≠ some t := by
              intro e
              have := hall i o ho e
              simp [hil] at this
            have h1 : (b.put o.dst v).tmps.getD t undef = b.tmps.getD t undef := by
              cases hdst : o.dst with
              | none => rfl
              | some d =>
                have hne : d ≠ t := fun e => hne (by rw [hdst, e])
                simp [Act.put, Array.getElem?_setIfInBounds_ne hne]
            rw [h1]
            refine huntouched t fun j p hp hpd => ?_
            have := hall j p hp hpd
            have hji : i ≠ j := by
              intro e; subst e
              rw [ho] at hp; injection hp with hp; subst hp; exact hne hpd
            rwa [getD_set_ne false hji] at this
          · intro k p hp hk e he hb
            have base : listed.getD e.on false = true := by
              by_cases ek : i = k
              · subst ek
                rw [ho] at hp; injection hp with hp; subst hp
                exact hdeps e he hb
              · rw [getD_set_ne false ek] at hk
                exact hcl k p hp hk e he hb
            by_cases ee : i = e.on
            · rw [← ee] at base; rw [hi0] at base; cases base
            · rw [getD_set_ne false ee]; exact base
        have hstep := hop i o ho listed c w' hls hi hSw
        unfold wpOp
        simp only [ho]
        rw [hwant]
        split
        · rename_i hw
          rw [if_pos hw] at hstep
          refine .inl ?_
          unfold Oper.wp at hstep ⊢
          rw [hexec]
          refine upon_of hstep ?_ ?_
          · rintro v w'' ⟨c', he, hS', hoff⟩
            exact hnext v w'' c' he.2 hoff hS'
          · rintro b' hb' w'' ⟨c', he, _⟩
            exact hb' he.1
        · rename_i hw
          rw [if_neg hw] at hstep
          exact hstep.elim
  refine main ops.size (Array.replicate ops.size false) a w.drew c0 (by simp) ?_ rfl rfl hsame (fun _ _ => rfl) (fun k p hp hk => by
    have hk' : k < ops.size := (Array.getElem?_eq_some_iff.1 hp).1
    simp [hk'] at hk) hS
  rw [List.filter_eq_self.2]
  · simp
  · intro i hi
    simp at hi
    simp [hi]

def setAll (F : Array Value) : List (Nat × Value) → Array Value
  | [] => F
  | p :: l => setAll (F.setIfInBounds p.1 p.2) l
theorem setAll_far : ∀ (l : List (Nat × Value)) (F : Array Value) (t : Nat), (∀ p ∈ l, p.1 ≠ t) → (setAll F l).getD t undef = F.getD t undef
  | [], _, _, _ => rfl
  | p :: l, F, t, h => by
    rw [setAll, setAll_far l _ t fun q hq => h q (by simp [hq])]
    have := h p (by simp)
    simp [Array.getElem?_setIfInBounds_ne this]

theorem setAll_size : ∀ (l : List (Nat × Value)) (F : Array Value), (setAll F l).size = F.size
  | [], _ => rfl
  | p :: l, F => by rw [setAll, setAll_size l]; simp
theorem setAll_reset (A : Array Value) : ∀ (l : List Nat) (F : Array Value) (t : Nat), (∀ t ∈ l, t < F.size) → (setAll F (l.map fun t => (t, A.getD t undef))).getD t undef = if t ∈ l then A.getD t undef else F.getD t undef
  | [], F, t, _ => by simp [setAll]
  | x :: l, F, t, h => by
    rw [List.map_cons, setAll, setAll_reset A l _ t fun t ht => by simpa using h t (by simp [ht])]
    by_cases ht : t ∈ l
    · rw [if_pos ht, if_pos (by simp [ht])]
    · rw [if_neg ht]
      by_cases e : t = x
      · subst e
        rw [if_pos (by simp)]
        simp [h t (by simp)]
      · rw [if_neg (by simp [ht, e])]
        simp [Array.getElem?_setIfInBounds_ne (Ne.symm e)]
/-- what stands behind one operation: the flags d say what had been done, the ghost c held the values -/
def FlagPost {γ : Type} (ops : Array Oper) (F : γ → Array Value) (D : List Deferred) (S : (Nat → Bool) → γ → World → Prop) (i : Nat) (o : Oper) (d : Nat → Bool) (c : γ) (a' : Act) (w' : World) : Prop :=
  ∃ c' L, (a'.defers = D ∧ ∀ t, o.dst = some t → a'.tmps.getD t undef = (F c').getD t undef) ∧ S (fun j => if j = i then true else d j) c' w' ∧
      F c' = setAll (F c) L ∧ ∀ p ∈ L, o.dst = some p.1 ∨ ∃ (j : Nat) (q : Oper), ops[j]? = some q ∧ q.dst = some p.1 ∧ j ≠ i ∧ d j = false
/-- the flags are closed: what a done operation waited for has been done -/
def Closed (ops : Array Oper) (d : Nat → Bool) : Prop := ∀ (k : Nat) (p : Oper), ops[k]? = some p → d k = true → ∀ e ∈ p.after, Region.binds .any e = true → d e.on = true
theorem Closed.up {d : Nat → Bool} (h : Closed ops d) {k j : Nat} {o : Oper} (ho : ops[k]? = some o) (he : (o.after.any fun e => Region.binds .any e && e.on == j) = true) (hk : d k = true) : d j = true := by
  obtain ⟨i, hi, hb⟩ := Array.any_eq_true.1 he
  simp only [Bool.and_eq_true, beq_iff_eq] at hb
  have := h k o ho hk _ (Array.getElem_mem hi) hb.1
  rwa [hb.2] at this
theorem Closed.down {d : Nat → Bool} (h : Closed ops d) {k j : Nat} {o : Oper} (ho : ops[k]? = some o) (he : (o.after.any fun e => Region.binds .any e && e.on == j) = true) (hj : d j = false) : d k = false := by
  cases hk : d k with
  | false => rfl
  | true => rw [h.up ho he hk] at hj; cases hj
/-- what one operation does -/
def Flag {γ : Type} (P : Program) (ops : Array Oper) (F X : γ → Array Value) (D : List Deferred) (S : (Nat → Bool) → γ → World → Prop) (i : Nat) (o : Oper) : Prop :=
  ∀ d c w, d i = false → (∀ j, (o.after.any fun e => Region.binds .any e && e.on == j) = true → d j = true) → Closed ops d → S d c w →
    o.wp P ⟨X c, D⟩ w (FlagPost ops F D S i o d c) (fun _ _ _ => False)
@[reducible] def FlagL {γ : Type} (P : Program) (ops : Array Oper) (F X : γ → Array Value) (D : List Deferred) (S : (Nat → Bool) → γ → World → Prop) : Nat → List Oper → Prop
  | _, [] => True
  | k, o :: os => (o.guard = none ∧ Flag P ops F X D S k o) ∧ FlagL P ops F X D S (k + 1) os
theorem FlagL.get {γ : Type} {F X : γ → Array Value} {D : List Deferred} {S : (Nat → Bool) → γ → World → Prop} : ∀ (l : List Oper) (k : Nat), FlagL P ops F X D S k l → ∀ (i : Nat) (o : Oper), l[i]? = some o → o.guard = none ∧ Flag P ops F X D S (k + i) o
  | [], _, _, i, o, h => by simp at h
  | p :: l, k, hl, 0, o, h => by
    simp at h; subst h
    exact hl.1
  | p :: l, k, hl, i + 1, o, h => by
    have := FlagL.get l (k + 1) hl.2 i o (by simpa using h)
    rwa [Nat.add_assoc, Nat.add_comm 1 i] at this

theorem wp_region_flags {γ : Type} {id : Nat} {a : Act} {w : World} {Q : Exit → Act → World → Prop} (D : List Deferred) (hD : a.defers = D) (hm : P.follows .mixedOrders = true) (hns : Region.noSelect ops = true) (Lw : List Nat) (hlook : looksOkX ops Lw = true)
    (F : γ → Array Value) (vs : γ → List Value) (hF : ∀ c, putAll ops.toList (vs c) a.tmps = F c) (LX : List (Nat × Value)) (hLX : LX = Lw.map fun t => (t, a.tmps.getD t undef)) (X : γ → Array Value) (hX0 : ∀ c, setAll (F c) LX = X c) (hLw : Lw.all (fun t => decide (t < a.tmps.size)) = true) (S : (Nat → Bool) → γ → World → Prop) (c0 : γ) (hS : S (fun _ => false) c0 w.drew)
    (hop : FlagL P ops F X D S 0 ops.toList)
    (hQ : ∀ d c w', (∀ i, i < ops.size → d i = true) → S d c w' → Q .normal ⟨F c, D⟩ w') : (Code.region id ops true).wp P Q a w := by
  subst hD
  have hX : ∀ c, X c = setAll (F c) (Lw.map fun t => (t, a.tmps.getD t undef)) := fun c => by rw [← hX0, hLX]
  have hFs : ∀ c, (F c).size = a.tmps.size := fun c => by rw [← hF c, size_putAll]
  refine wp_region_fixX hm hns Lw hlook F X (fun c t => by rw [hX]; exact setAll_reset a.tmps Lw (F c) t (fun t ht => by have := List.all_eq_true.1 hLw t ht; rw [hFs]; simpa using this)) (fun c => by rw [hX, setAll_size]; exact hFs c) (fun listed c w' => S (fun j => listed.getD j false) c w' ∧
      ∀ (k : Nat) (p : Oper), ops[k]? = some p → listed.getD k false = true → ∀ e ∈ p.after, Region.binds .any e = true → listed.getD e.on false = true) c0 ?_ (fun c => by rw [← hF c, size_putAll]) ?_ ?_ ?_
  · refine ⟨?_, fun k p hp hk => ?_⟩
    · have : (fun j => (Array.replicate ops.size false).getD j false) = fun _ => false := by
        funext j
        rw [Array.getD_eq_getD_getElem?, Array.getElem?_replicate]
        split <;> rfl
      rw [this]; exact hS
    · have hk' : k < ops.size := (Array.getElem?_eq_some_iff.1 hp).1
      simp [hk'] at hk
  · intro t ht
    rw [← hF c0, putAll_same _ _ _ _ (not_pending ht)]
  · intro i o ho listed c w' hls hready ⟨hS', hcl⟩
    have hlt : i < ops.size := (Array.getElem?_eq_some_iff.1 ho).1
    have hil : i < listed.size := by omega
    obtain ⟨h0, o', ho', hdeps⟩ := mem_ready.1 hready
    rw [ho] at ho'; injection ho' with ho'; subst ho'
    have hi0 : listed.getD i false = false := by simp [hil] at h0 ⊢; exact h0
    have hupd : (fun j => (listed.setIfInBounds i true).getD j false) = fun j => if j = i then true else listed.getD j false := by
      funext j
      by_cases e : j = i
      · subst e; simp [hil]
      · rw [getD_set_ne false (Ne.symm e), if_neg e]
    have hcl' : ∀ (k : Nat) (p : Oper), ops[k]? = some p → (listed.setIfInBounds i true).getD k false = true → ∀ e ∈ p.after, Region.binds .any e = true → (listed.setIfInBounds i true).getD e.on false = true := by
      intro k p hp hk e he hb
      have base : listed.getD e.on false = true := by
        by_cases ek : i = k
        · subst ek
          rw [ho] at hp; injection hp with hp; subst hp
          exact hdeps e he hb
        · rw [getD_set_ne false ek] at hk
          exact hcl k p hp hk e he hb
      by_cases ee : i = e.on
      · rw [← ee] at base; rw [hi0] at base; cases base
      · rw [getD_set_ne false ee]; exact base
    obtain ⟨hg, hf⟩ := FlagL.get _ _ hop i o (by simpa using ho)
    rw [Nat.zero_add] at hf
    have hw : Region.wanted o (yielded ops (X c)) = true := by simp [Region.wanted, hg]
    rw [if_pos hw]
    have hdeps' : ∀ j, (o.after.any fun e => Region.binds .any e && e.on == j) = true → listed.getD j false = true := fun j he => by
      obtain ⟨m, hm, hb⟩ := Array.any_eq_true.1 he
      simp only [Bool.and_eq_true, beq_iff_eq] at hb
      have := hdeps _ (Array.getElem_mem hm) hb.1
      rwa [hb.2] at this
    have h' := hf (fun j => listed.getD j false) c w' hi0 hdeps' hcl hS'
    unfold Oper.wp at h' ⊢
    refine upon_of h' ?_ ?_
    · rintro v w'' ⟨c', L, hd, s, hL, hLs⟩
      refine ⟨c', hd, ⟨by rw [hupd]; exact s, hcl'⟩, fun t hp hne => ?_⟩
      rw [hL, setAll_far]
      intro p hpL e
      rcases hLs p hpL with h | ⟨j, q, hj, hq, hji, hdj⟩
      · exact hne (by rw [h, e])
      · refine hp ⟨j, q, hj, by rw [hq, e], ?_⟩
        rw [getD_set_ne false (Ne.symm hji)]; exact hdj
    · rintro b hb w'' ⟨c', L, hd, _⟩
      exact hb hd.1
  · intro listed c w' hall ⟨hS', _⟩
    exact hQ _ c w' (fun i hi => hall i hi) hS'

/-- what stands behind an operation that only reads or computes -/
def PurePost {γ : Type} (F : γ → Array Value) (D : List Deferred) (o : Oper) (c : γ) (w : World) (a' : Act) (w' : World) : Prop :=
  a'.defers = D ∧ (∀ t, o.dst = some t → a'.tmps.getD t undef = (F c).getD t undef) ∧ w' = w
/-- an operation that only reads or computes -/
theorem Flag.pure {γ : Type} {F X : γ → Array Value} {D : List Deferred} {S : (Nat → Bool) → γ → World → Prop} {i : Nat} {o : Oper}
    (hst : ∀ d c w, S d c w → S (fun j => if j = i then true else d j) c w)
    (h : ∀ d c w, d i = false → (∀ j, (o.after.any fun e => Region.binds .any e && e.on == j) = true → d j = true) → Closed ops d → S d c w → o.wp P ⟨X c, D⟩ w (PurePost F D o c w) (fun _ _ _ => False)) : Flag P ops F X D S i o := by
  intro d c w hd hdeps hcl hS
  have h' := h d c w hd hdeps hcl hS
  unfold Oper.wp at h' ⊢
  refine upon_of h' ?_ ?_
  · rintro v w'' ⟨e1, e2, rfl⟩
    exact ⟨c, [], ⟨e1, e2⟩, hst d c _ hS, rfl, by simp⟩
  · rintro b hb w'' ⟨e, _⟩
    exact hb e
/-- the value of an operation stands in its own slot alone -/
theorem FlagPost.own {γ : Type} {F : γ → Array Value} {D : List Deferred} {S : (Nat → Bool) → γ → World → Prop} {i : Nat} {o : Oper} {d : Nat → Bool} {c : γ} {a' : Act} {w' : World} (c' : γ) (t : Nat) (v : Value)
    (hd : a'.defers = D) (ho : o.dst = some t) (hv : a'.tmps.getD t undef = (F c').getD t undef) (hS : S (fun j => if j = i then true else d j) c' w') (hF : F c' = (F c).setIfInBounds t v) : FlagPost ops F D S i o d c a' w' :=
  ⟨c', [(t, v)], ⟨hd, fun t' ht => by rw [ho] at ht; injection ht with ht; subst ht; exact hv⟩, hS, hF, fun p hp => by simp at hp; subst hp; exact .inl ho⟩
/-- .. and in the slot of an operation that has not been done -/
theorem FlagPost.two {γ : Type} {F : γ → Array Value} {D : List Deferred} {S : (Nat → Bool) → γ → World → Prop} {i : Nat} {o : Oper} {d : Nat → Bool} {c : γ} {a' : Act} {w' : World} (c' : γ) (t : Nat) (v : Value) (k : Nat) (q : Oper) (t2 : Nat)
    (hd : a'.defers = D) (ho : o.dst = some t) (hv : a'.tmps.getD t undef = (F c').getD t undef) (hS : S (fun j => if j = i then true else d j) c' w') (hF : F c' = ((F c).setIfInBounds t v).setIfInBounds t2 v)
    (hq : ops[k]? = some q) (hq2 : q.dst = some t2) (hk : k ≠ i) (hdk : d k = false) : FlagPost ops F D S i o d c a' w' :=
  ⟨c', [(t, v), (t2, v)], ⟨hd, fun t' ht => by rw [ho] at ht; injection ht with ht; subst ht; exact hv⟩, hS, hF, fun p hp => by
    simp at hp
    rcases hp with rfl | rfl
    · exact .inl ho
    · exact .inr ⟨k, q, hq, hq2, hk, hdk⟩⟩
end

set_option maxRecDepth 100000

section
variable {P : Program} {ops : Array Oper}
theorem wp_region_fixY {γ : Type} {id : Nat} {a : Act} {w : World} {Q : Exit → Act → World → Prop} (hm : P.follows .mixedOrders = true) (hns : Region.noSelect ops = true) (Lw : List Nat) (hlook : looksOkX ops Lw = true)
    (F X : γ → Array Value) (hX : ∀ c t, (X c).getD t undef = if t ∈ Lw then a.tmps.getD t undef else (F c).getD t undef) (hXs : ∀ c, (X c).size = a.tmps.size) (S : Array Bool → γ → World → Prop) (c0 : γ) (hS : S (Array.replicate ops.size false) c0 w.drew)
    (hsize : ∀ c, (F c).size = a.tmps.size)
    (hsame : ∀ t, ¬ Pending ops (Array.replicate ops.size false) t → a.tmps.getD t undef = (F c0).getD t undef)
    (hop : ∀ (i : Nat) (o : Oper), ops[i]? = some o → ∀ listed c w', listed.size = ops.size → i ∈ Region.ready .any ops listed → S listed c w' →
      if Region.wanted o (yielded ops (X c)) = true then
        o.wp P ⟨X c, a.defers⟩ w' (fun a' w'' => ∃ c', (a'.defers = a.defers ∧ ∀ t, o.dst = some t → a'.tmps.getD t undef = (F c').getD t undef) ∧ S (listed.setIfInBounds i true) c' w'' ∧ ∀ t, ¬ Pending ops (listed.setIfInBounds i true) t → o.dst ≠ some t → (F c').getD t undef = (F c).getD t undef) (fun _ _ _ => False)
      else ∃ c', (∀ t, o.dst = some t → ((⟨X c, a.defers⟩ : Act).put o.dst undef).tmps.getD t undef = (F c').getD t undef) ∧ S (listed.setIfInBounds i true) c' w' ∧ ∀ t, ¬ Pending ops (listed.setIfInBounds i true) t → o.dst ≠ some t → (F c').getD t undef = (F c).getD t undef)
    (hQ : ∀ listed c w', (∀ i, i < ops.size → listed.getD i false = true) → S listed c w' → Q .normal ⟨F c, a.defers⟩ w') : (Code.region id ops true).wp P Q a w := by
  refine wp_region_any hm ?_
  have main : ∀ (fuel : Nat) (listed : Array Bool) (b : Act) (w' : World) (c : γ), listed.size = ops.size → ((List.range ops.size).filter fun i => !listed.getD i false).length = fuel →
      b.defers = a.defers → b.tmps.size = a.tmps.size → (∀ t, ¬ Pending ops listed t → b.tmps.getD t undef = (F c).getD t undef) →
      (∀ t, (∀ (j : Nat) (p : Oper), ops[j]? = some p → p.dst = some t → listed.getD j false = false) → b.tmps.getD t undef = a.tmps.getD t undef) →
      (∀ (k : Nat) (p : Oper), ops[k]? = some p → listed.getD k false = true → ∀ e ∈ p.after, Region.binds .any e = true → listed.getD e.on false = true) → S listed c w' → wpAny P .any ops Q fuel listed b w' := by
    intro fuel
    induction fuel with
    | zero =>
      intro listed b w' c hls hcount hbd hbs hagree huntouched hcl hSw
      have hall : ∀ i, i < ops.size → listed.getD i false = true := by
        intro i hi
        have hnil := List.length_eq_zero_iff.1 hcount
        rw [List.filter_eq_nil_iff] at hnil
        have := hnil i (List.mem_range.2 hi)
        simpa using this
      refine ⟨?_, ?_⟩
      · rw [List.eq_nil_iff_forall_not_mem]
        intro i hi
        obtain ⟨h0, o, ho, _⟩ := mem_ready.1 hi
        have hlt : i < ops.size := (Array.getElem?_eq_some_iff.1 ho).1
        have := hall i hlt
        have hi' : i < listed.size := by omega
        simp [hi'] at h0 this
        rw [h0] at this
        cases this
      · have hb : b = ⟨F c, a.defers⟩ := by
          obtain ⟨bt, bd⟩ := b
          simp only at hbd hbs hagree
          subst hbd
          congr 1
          refine Array.ext (by rw [hbs, hsize]) fun t h1 h2 => ?_
          have := hagree t (by rintro ⟨j, o, ho, _, hl⟩; have := hall j (Array.getElem?_eq_some_iff.1 ho).1; rw [hl] at this; cases this)
          simpa [Array.getD, h1, h2] using this
        rw [hb]
        exact hQ listed c w' hall hSw
    | succ fuel ih =>
      intro listed b w' c hls hcount hbd hbs hagree huntouched hcl hSw
      refine ⟨?_, ?_⟩
      · intro hnil
        exfalso
        -- the least operation that is not done may come up
        have hex : ∃ i, i < ops.size ∧ listed.getD i false = false := by
          have hne : ((List.range ops.size).filter fun i => !listed.getD i false) ≠ [] := by
            intro e; rw [e] at hcount; simp at hcount
          obtain ⟨i, hi⟩ := List.exists_mem_of_ne_nil _ hne
          rw [List.mem_filter, List.mem_range] at hi
          exact ⟨i, hi.1, by simpa using hi.2⟩
        obtain ⟨i, ⟨hi, hil⟩, hmin⟩ := exists_least hex
        have ho : ops[i]? = some ops[i] := Array.getElem?_eq_getElem hi
        have hmem : i ∈ Region.ready .any ops listed := by
          refine mem_ready.2 ⟨?_, ops[i], ho, fun e he hbe => ?_⟩
          · have hi' : i < listed.size := by omega
            simp [hi'] at hil ⊢; exact hil
          · have hlt := (looksOkX_spec hlook ho).1 e he hbe
            cases hc : listed.getD e.on false with
            | true => rfl
            | false => exact absurd (hmin e.on ⟨by omega, hc⟩) (by omega)
        rw [hnil] at hmem
        cases hmem
      · intro i hi
        obtain ⟨h0, o, ho, hdeps⟩ := mem_ready.1 hi
        have hlt : i < ops.size := (Array.getElem?_eq_some_iff.1 ho).1
        have hil : i < listed.size := by omega
        have hi0 : listed.getD i false = false := by simp [hil] at h0 ⊢; exact h0
        have hlooks : ∀ d ∈ o.looksAt ops, b.tmps.getD d undef = (X c).getD d undef := by
          intro d hd
          rw [hX]
          have hl := (looksOkX_spec hlook ho).2
          by_cases hdL : d ∈ Lw
          · rw [if_pos hdL]
            refine huntouched d fun j p hp hpd => ?_
            rcases hl j p d hp hpd hd with ⟨h, _⟩ | ⟨_, e, he, hb, hej⟩
            · exact absurd hdL h
            · cases hc : listed.getD j false with
              | false => rfl
              | true =>
                have := hcl j p hp hc e he hb
                rw [hej, hi0] at this
                cases this
          · rw [if_neg hdL]
            refine hagree d ?_
            rintro ⟨j, p, hp, hpd, hjl⟩
            rcases hl j p d hp hpd hd with ⟨_, e, he, hb, hej⟩ | ⟨h, _⟩
            · have := hdeps e he hb
              rw [hej, hjl] at this
              cases this
            · exact hdL h
        have hcount' : ((List.range ops.size).filter fun j => !(listed.setIfInBounds i true).getD j false).length = fuel := by
          have key : ∀ l : List Nat, l.Nodup → i ∈ l → (l.filter fun j => !(listed.setIfInBounds i true).getD j false).length + 1 = (l.filter fun j => !listed.getD j false).length := by
            intro l
            induction l with
            | nil => intro _ h; cases h
            | cons x xs ihl =>
              intro hnd hmem
              rw [List.nodup_cons] at hnd
              by_cases hx : x = i
              · subst hx
                have e1 : (listed.setIfInBounds x true).getD x false = true := by simp [hil]
                have e2 : (xs.filter fun j => !(listed.setIfInBounds x true).getD j false) = xs.filter fun j => !listed.getD j false := by
                  refine List.filter_congr fun j hj => ?_
                  rw [getD_set_ne false (fun e => hnd.1 (by rw [e]; exact hj))]
                rw [List.filter_cons, List.filter_cons, e1, hi0, e2]
                simp
              · have e1 : (listed.setIfInBounds i true).getD x false = listed.getD x false := getD_set_ne false (Ne.symm hx)
                have hmem' : i ∈ xs := by cases hmem with | head => exact absurd rfl hx | tail _ h => exact h
                have := ihl hnd.2 hmem'
                rw [List.filter_cons, List.filter_cons, e1]
                cases listed.getD x false <;> simp <;> simpa using this
          have := key (List.range ops.size) List.nodup_range (List.mem_range.2 hlt)
          omega
        -- the frame at hand and F agree on what the operation looks at
        have heval : ∀ x ∈ o.op.operands, b.eval x = (⟨X c, a.defers⟩ : Act).eval x := by
          intro x hx
          cases x with
          | tmp t =>
            refine hlooks t ?_
            exact List.mem_append_left _ (List.mem_filterMap.2 ⟨.tmp t, by simpa using hx, rfl⟩)
          | const v => rfl
          | global g => rfl
          | func f => rfl
        have hexec : execOp b.eval o = execOp (⟨X c, a.defers⟩ : Act).eval o := execOp_congr o (fun cs bb => Region.noSelect_spec hns i o cs bb ho) heval
        have hwant : Region.wanted o (yielded ops b.tmps) = Region.wanted o (yielded ops (X c)) := by
          unfold Region.wanted
          cases hg : o.guard with
          | none => rfl
          | some gw =>
            obtain ⟨g, want⟩ := gw
            have hy : yielded ops b.tmps g = yielded ops (X c) g := by
              unfold yielded
              cases ht : (ops[g]?).bind (·.dst) with
              | none => rfl
              | some t =>
                have hb := hlooks t (by simp [Oper.looksAt, hg, ht])
                have hsz : b.tmps.size = (X c).size := by rw [hbs, hXs]
                have : b.tmps[t]? = (X c)[t]? := by
                  by_cases h : t < b.tmps.size
                  · have h' : t < (X c).size := Nat.lt_of_lt_of_eq h hsz
                    simp [Array.getD, h, h'] at hb
                    simp [h, h', hb]
                  · rw [Array.getElem?_eq_none (Nat.le_of_not_lt h), Array.getElem?_eq_none (hsz ▸ Nat.le_of_not_lt h)]
                simp only [Option.bind_some, this]
            simp only [hy]
        -- behind the operation
        have hnext : ∀ (v : Value) (w'' : World) (c' : γ), (∀ t, o.dst = some t → ((⟨X c, a.defers⟩ : Act).put o.dst v).tmps.getD t undef = (F c').getD t undef) → (∀ t, ¬ Pending ops (listed.setIfInBounds i true) t → o.dst ≠ some t → (F c').getD t undef = (F c).getD t undef) → S (listed.setIfInBounds i true) c' w'' →
            wpAny P .any ops Q fuel (listed.setIfInBounds i true) (b.put o.dst v) w'' := by
          intro v w'' c' hput hoff hS'
          refine ih _ _ _ c' (by simpa using hls) hcount' ?_ ?_ ?_ ?_ ?_ hS'
          · cases o.dst <;> exact hbd
          · cases o.dst <;> simpa [Act.put] using hbs
          · intro t hp
            by_cases ht : o.dst = some t
            · have h1 : (b.put o.dst v).tmps.getD t undef = ((⟨X c, a.defers⟩ : Act).put o.dst v).tmps.getD t undef := by
                rw [ht]
                have hsz : b.tmps.size = (X c).size := by rw [hbs, hXs]
                simp only [Act.put, Array.getD_eq_getD_getElem?]
                by_cases h : t < b.tmps.size
                · simp [h, show t < (X c).size by omega]
                · rw [Array.getElem?_eq_none (by simp; omega), Array.getElem?_eq_none (by simp; omega)]
              rw [h1, hput t ht]
            · have h1 : (b.put o.dst v).tmps.getD t undef = b.tmps.getD t undef := by
                cases hdst : o.dst with
                | none => rfl
                | some d =>
                  have hne : d ≠ t := fun e => ht (by rw [hdst, e])
                  simp [Act.put, Array.getElem?_setIfInBounds_ne hne]
              rw [h1, hoff t hp ht]
              refine hagree t ?_
              rintro ⟨j, p, hp', hpd, hjl⟩
              refine hp ⟨j, p, hp', hpd, ?_⟩
              have hji : i ≠ j := by
                intro e; subst e
                rw [ho] at hp'; injection hp' with hp'; subst hp'; exact ht hpd
              rw [getD_set_ne false hji]; exact hjl
          · intro t hall
            have hne : o.dst ≠ some t := by
              intro e
              have := hall i o ho e
              simp [hil] at this
            have h1 : (b.put o.dst v).tmps.getD t undef = b.tmps.getD t undef := by
              cases hdst : o.dst with
              | none => rfl
              | some d =>
                have hne : d ≠ t := fun e => hne (by rw [hdst, e])
                simp [Act.put, Array.getElem?_setIfInBounds_ne hne]
            rw [h1]
            refine huntouched t fun j p hp hpd => ?_
            have := hall j p hp hpd
            have hji : i ≠ j := by
              intro e; subst e
              rw [ho] at hp; injection hp with hp; subst hp; exact hne hpd
            rwa [getD_set_ne false hji] at this
          · intro k p hp hk e he hb
            have base : listed.getD e.on false = true := by
              by_cases ek : i = k
              · subst ek
                rw [ho] at hp; injection hp with hp; subst hp
                exact hdeps e he hb
              · rw [getD_set_ne false ek] at hk
                exact hcl k p hp hk e he hb
            by_cases ee : i = e.on
            · rw [← ee] at base; rw [hi0] at base; cases base
            · rw [getD_set_ne false ee]; exact base
        have hstep := hop i o ho listed c w' hls hi hSw
        unfold wpOp
        simp only [ho]
        rw [hwant]
        split
        · rename_i hw
          rw [if_pos hw] at hstep
          refine .inl ?_
          unfold Oper.wp at hstep ⊢
          rw [hexec]
          refine upon_of hstep ?_ ?_
          · rintro v w'' ⟨c', he, hS', hoff⟩
            exact hnext v w'' c' he.2 hoff hS'
          · rintro b' hb' w'' ⟨c', he, _⟩
            exact hb' he.1
        · rename_i hw
          rw [if_neg hw] at hstep
          obtain ⟨c', h1, h2, h3⟩ := hstep
          exact hnext undef w' c' h1 h3 h2
  refine main ops.size (Array.replicate ops.size false) a w.drew c0 (by simp) ?_ rfl rfl hsame (fun _ _ => rfl) (fun k p hp hk => by
    have hk' : k < ops.size := (Array.getElem?_eq_some_iff.1 hp).1
    simp [hk'] at hk) hS
  rw [List.filter_eq_self.2]
  · simp
  · intro i hi
    simp at hi
    simp [hi]


/-- what one operation does at the frame X, its value being that of the last frame F -/
def FixX (P : Program) (ops : Array Oper) (F X : Array Value) (D : List Deferred) (S : World → Prop) (o : Oper) : Prop :=
  if Region.wanted o (yielded ops X) = true then ∀ w, S w → o.wp P ⟨X, D⟩ w (fun a' w' => (a'.defers = D ∧ ∀ t, o.dst = some t → a'.tmps.getD t undef = F.getD t undef) ∧ Below w.heap.size w w') (fun _ _ _ => False)
  else ∀ t, o.dst = some t → ((⟨X, D⟩ : Act).put o.dst undef).tmps.getD t undef = F.getD t undef
theorem FixX.of {F X : Array Value} {D : List Deferred} {S : World → Prop} {o : Oper} (hg : Region.wanted o (yielded ops X) = true)
    (h : ∀ w, S w → o.wp P ⟨X, D⟩ w (fun a' w' => (a'.defers = D ∧ ∀ t, o.dst = some t → a'.tmps.getD t undef = F.getD t undef) ∧ Below w.heap.size w w') (fun _ _ _ => False)) : FixX P ops F X D S o := by
  unfold FixX
  rw [if_pos hg]
  exact h
theorem FixX.off {F X : Array Value} {D : List Deferred} {S : World → Prop} {o : Oper} (hg : Region.wanted o (yielded ops X) = false)
    (h : ∀ t, o.dst = some t → ((⟨X, D⟩ : Act).put o.dst undef).tmps.getD t undef = F.getD t undef) : FixX P ops F X D S o := by
  unfold FixX
  rw [if_neg (by rw [hg]; simp)]
  exact h
@[reducible] def FixXL (P : Program) (ops : Array Oper) (F X : Array Value) (D : List Deferred) (S : World → Prop) : List Oper → Prop
  | [] => True
  | o :: os => FixX P ops F X D S o ∧ FixXL P ops F X D S os
theorem FixXL.get {F X : Array Value} {D : List Deferred} {S : World → Prop} : ∀ (l : List Oper), FixXL P ops F X D S l → ∀ (i : Nat) (o : Oper), l[i]? = some o → FixX P ops F X D S o
  | [], _, i, o, h => by simp at h
  | p :: l, hl, 0, o, h => by simp at h; subst h; exact hl.1
  | p :: l, hl, i + 1, o, h => FixXL.get l hl.2 i o (by simpa using h)

theorem wp_region_sameX {id : Nat} {a : Act} {w : World} {Q : Exit → Act → World → Prop} (D : List Deferred) (hD : a.defers = D) (hm : P.follows .mixedOrders = true) (hns : Region.noSelect ops = true) (Lw : List Nat) (hlook : looksOkX ops Lw = true)
    (S : World → Prop) (F : Array Value) (vs : List Value) (hF : putAll ops.toList vs a.tmps = F) (LX : List (Nat × Value)) (hLX : LX = Lw.map fun t => (t, a.tmps.getD t undef)) (X : Array Value) (hX0 : setAll F LX = X) (hLw : Lw.all (fun t => decide (t < a.tmps.size)) = true)
    (hst : ∀ w' w'', S w' → Below w'.heap.size w' w'' → S w'') (hS : S w.drew)
    (hop : FixXL P ops F X D S ops.toList)
    (hQ : ∀ w', S w' → Q .normal ⟨F, D⟩ w') : (Code.region id ops true).wp P Q a w := by
  subst hD
  have hFs : F.size = a.tmps.size := by rw [← hF, size_putAll]
  have hX : X = setAll F (Lw.map fun t => (t, a.tmps.getD t undef)) := by rw [← hX0, hLX]
  refine wp_region_fixY hm hns Lw hlook (γ := Unit) (fun _ => F) (fun _ => X) (fun _ t => by rw [hX]; exact setAll_reset a.tmps Lw F t (fun t ht => by have := List.all_eq_true.1 hLw t ht; rw [hFs]; simpa using this)) (fun _ => by rw [hX, setAll_size]; exact hFs) (fun _ _ w' => S w') () hS (fun _ => hFs) ?_ ?_ ?_
  · intro t ht
    rw [← hF, putAll_same _ _ _ _ (not_pending ht)]
  · intro i o ho listed _ w' _ _ hS'
    have h := FixXL.get ops.toList hop i o (by simpa using ho)
    unfold FixX at h
    split
    · rename_i hw
      rw [if_pos hw] at h
      have h' := h w' hS'
      unfold Oper.wp at h' ⊢
      refine upon_of h' ?_ ?_
      · rintro v w'' ⟨e1, e2⟩
        exact ⟨(), e1, hst _ _ hS' e2, fun _ _ _ => rfl⟩
      · rintro b' hb' w'' ⟨e1, _⟩
        exact hb' e1.1
    · rename_i hw
      rw [if_neg hw] at h
      exact ⟨(), h, hS', fun _ _ _ => rfl⟩
  · intro _ _ w' _ hS'
    exact hQ w' hS'
end
end Go.Proofs.Ytkbfocoaobiijaa
