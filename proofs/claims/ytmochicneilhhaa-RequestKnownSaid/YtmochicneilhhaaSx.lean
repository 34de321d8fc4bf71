/- A region that draws its order, where one loud operation (d) may be drawn ahead of another one (c): gone through twice. -/
import Derived.Test.YtmochicneilhhaaSp
namespace Go.Proofs.Ytmochicneilhhaa
open Go.RowKit
section
variable {P : Program} {ops : Array Oper} {Q : Exit → Act → World → Prop} {S : World → Prop} {E : List Nat} {c d : Nat}
/-- as 'serialB', one pair excepted -/
def serialX (ops : Array Oper) (E : List Nat) (c d : Nat) : Bool :=
  Region.noSelect ops &&
  (List.range ops.size).all (fun i => (onOf ops i).all (fun j => decide (j < i))) &&
  (List.range ops.size).all (fun i => (List.range i).all fun j => (onOf ops i).contains j || match ops[j]?, ops[i]? with
      | some oj, some oi => oj.apart ops oi
      | _, _ => true) &&
  E.all (fun i => E.all fun j => !decide (j < i) || (i == d && j == c) || (downs ops i (onOf ops i)).contains j) &&
  (List.range d).all (fun i => match ops[d]?, ops[i]? with
      | some od, some oi => od.apart ops oi
      | _, _ => true) &&
  E.all (fun i => i == c || i == d || (downs ops i (onOf ops i)).contains c) && (decide (c < d) && decide (d < ops.size))
structure SerX (ops : Array Oper) (E : List Nat) (c d : Nat) : Prop where
  sel : ∀ (j : Nat) (o : Oper) cs b, ops[j]? = some o → o.op ≠ .select cs b
  back : ∀ i, i < ops.size → ∀ j ∈ onOf ops i, j < i
  ap : ∀ i j oi oj, j < i → ops[i]? = some oi → ops[j]? = some oj → j ∈ onOf ops i ∨ oj.apart ops oi = true
  chain : ∀ i j, E.contains i = true → E.contains j = true → j < i → (i = d ∧ j = c) ∨ j ∈ downs ops i (onOf ops i)
  apd : ∀ i oi od, i < d → ops[i]? = some oi → ops[d]? = some od → od.apart ops oi = true
  rest : ∀ i, E.contains i = true → i = c ∨ i = d ∨ c ∈ downs ops i (onOf ops i)
  lt : c < d
  inb : d < ops.size
theorem serialX_spec (h : serialX ops E c d = true) : SerX ops E c d := by
  simp only [serialX, Bool.and_eq_true, List.all_eq_true, List.mem_range, decide_eq_true_eq, Bool.or_eq_true, Bool.not_eq_true', decide_eq_false_iff_not, beq_iff_eq] at h
  obtain ⟨⟨⟨⟨⟨⟨hsel, hback⟩, hap⟩, hchain⟩, hapd⟩, hrest⟩, hlt, hinb⟩ := h
  have lt_of : ∀ {k : Nat} {o : Oper}, ops[k]? = some o → k < ops.size := fun {k o} ho => (Array.getElem?_eq_some_iff.1 ho).1
  refine ⟨fun j o cs b ho => Region.noSelect_spec hsel j o cs b ho, hback, fun i j oi oj hj hi hoj => ?_, fun i j hi hj hl => ?_, fun i oi od hl hi hd => ?_, fun i hi => ?_, hlt, hinb⟩
  · have := hap i (lt_of hi) j hj
    rw [hi, hoj] at this
    simpa using this
  · have := hchain i (by simpa using hi) j (by simpa using hj)
    rcases this with (h' | h') | h'
    · exact absurd hl h'
    · exact .inl h'
    · exact .inr (by simpa using h')
  · have := hapd i hl
    rw [hd, hi] at this
    exact this
  · have := hrest i (by simpa using hi)
    rcases this with (h' | h') | h'
    · exact .inl h'
    · exact .inr (.inl h')
    · exact .inr (.inr (by simpa using h'))
theorem unlisted_iff {listed : Array Bool} (hsz : listed.size = ops.size) {j : Nat} (hj : j < ops.size) : (listed.getD j true = false ↔ ¬ listed.getD j false = true) := by
  have : j < listed.size := by omega
  simp [Array.getD_eq_getD_getElem?, this]
theorem mem_inb {listed : Array Bool} (hsz : listed.size = ops.size) {j : Nat} (h : listed.getD j true = false) : j < ops.size := by
  rcases Nat.lt_or_ge j ops.size with h' | h'
  · exact h'
  · rw [Array.getD_eq_getD_getElem?, Array.getElem?_eq_none (by omega)] at h
    cases h
/-- something is ready as long as anything is left -/
theorem ready_some (hx : SerX ops E c d) {x : Nat} {xs : List Nat} {listed : Array Bool} (hsort : (x :: xs).Pairwise (· < ·)) (hm : ∀ j, j ∈ x :: xs ↔ listed.getD j true = false) (hsz : listed.size = ops.size) : Region.ready .any ops listed ≠ [] := by
  intro hr
  have hun := (hm x).1 (List.mem_cons_self ..)
  have hxn := mem_inb hsz hun
  have hx : x ∈ Region.ready .any ops listed := by
    refine mem_ready.2 ⟨hun, ops[x], by simp [hxn], fun e he hb => ?_⟩
    have hon : e.on ∈ onOf ops x := (mem_onOf (by simp [hxn])).2 ⟨e, he, hb, rfl⟩
    have hlt := hx.back x hxn e.on hon
    by_cases hc : listed.getD e.on false = true
    · exact hc
    · have := (hm e.on).2 ((unlisted_iff hsz (by omega)).2 hc)
      rcases List.mem_cons.1 this with h' | h'
      · omega
      · have := (List.pairwise_cons.1 hsort).1 _ h'
        omega
  rw [hr] at hx
  cases hx
theorem setD {listed : Array Bool} (hsz : listed.size = ops.size) {i : Nat} (hin : i < ops.size) (j : Nat) : (listed.setIfInBounds i true).getD j true = if j = i then true else listed.getD j true := by
  by_cases hji : j = i
  · subst hji; simp [Array.getD_eq_getD_getElem?, hsz, hin]
  · rw [if_neg hji, getD_set_ne true (Ne.symm hji)]
/-- once c or d has been drawn -/
theorem anyX_after (hx : SerX ops E c d) (hQ : NoDeath Q) : ∀ (fuel : Nat) (l : List Nat) (listed : Array Bool), l.length = fuel → l.Pairwise (· < ·) → (∀ j, j ∈ l ↔ listed.getD j true = false) → listed.size = ops.size →
    (∀ k, listed.getD k false = true → ∀ e ∈ onOf ops k, listed.getD e false = true) → (listed.getD c false = true ∨ listed.getD d false = true) → ∀ a w, S w → wpIdx P ops Q S E l a w → wpAnyH P .any ops Q S fuel listed a w := by
  intro fuel
  induction fuel with
  | zero =>
    intro l listed hl _ hm hsz _ _ a w _ h
    obtain rfl : l = [] := List.eq_nil_of_length_eq_zero hl
    refine ⟨?_, h⟩
    rw [List.eq_nil_iff_forall_not_mem]
    intro j hj
    exact absurd ((hm j).2 (mem_ready.1 hj).1) (by simp)
  | succ fuel ih =>
    intro l listed hl hsort hm hsz hcl hcd a w hS h
    cases l with
    | nil => cases hl
    | cons x xs =>
      refine ⟨fun hr => absurd hr (ready_some hx hsort hm hsz), fun i hi => ?_⟩
      obtain ⟨hun, oi, hoi, hall⟩ := mem_ready.1 hi
      have hil := (hm i).2 hun
      have hin := mem_inb hsz hun
      obtain ⟨l1, l2, hsplit⟩ := List.append_of_mem hil
      rw [hsplit] at h hsort hl
      have hon : ∀ e ∈ onOf ops i, listed.getD e false = true := fun e he => by
        obtain ⟨x, hx, hb, rfl⟩ := (mem_onOf hoi).1 he
        exact hall x hx hb
      have hlt : ∀ j ∈ l1, j < i := fun j hj => (List.pairwise_append.1 hsort).2.2 j hj i (List.mem_cons_self ..)
      have hfront := wpIdx_front hoi hx.sel hQ l2 l1 (fun j hj => by
        have hjl : j ∈ x :: xs := by rw [hsplit]; exact List.mem_append_left _ hj
        have hjn := mem_inb hsz ((hm j).1 hjl)
        have hjun : ¬ listed.getD j false = true := (unlisted_iff hsz hjn).1 ((hm j).1 hjl)
        refine ⟨ops[j], by simp [hjn], ?_, ?_⟩
        · rcases hx.ap i j oi ops[j] (hlt j hj) hoi (by simp [hjn]) with h' | h'
          · exact absurd (hon j h') hjun
          · exact h'
        · rintro ⟨hei, hej⟩
          rcases hx.chain i j hei hej (hlt j hj) with ⟨rfl, rfl⟩ | h'
          · rcases hcd with h' | h'
            · exact hjun h'
            · exact (unlisted_iff hsz hin).1 hun h'
          · exact hjun (downs_all (p := fun e => listed.getD e false = true) (fun k hk e he => hcl k hk e he) i _ hon j h')) a w hS h
      refine wpOp_mono (fun a' w' hk => ⟨hk.1, ?_⟩) (stepI_wpOp hS hfront)
      have hnd : ∀ j ∈ l1 ++ l2, j ≠ i := by
        intro j hj
        rcases List.mem_append.1 hj with h' | h'
        · exact Nat.ne_of_lt (hlt j h')
        · exact Nat.ne_of_gt ((List.pairwise_cons.1 (List.pairwise_append.1 hsort).2.1).1 j h')
      refine ih (l1 ++ l2) _ (by simp at hl ⊢; omega) ?_ ?_ (by simp [hsz]) ?_ ?_ a' w' hk.1 hk.2
      · exact hsort.sublist (by simp)
      · intro j
        rw [setD hsz hin]
        have := hm j
        rw [hsplit] at this
        by_cases hji : j = i
        · subst hji
          simp only [if_true, Bool.true_eq_false, iff_false]
          intro h'
          exact hnd _ h' rfl
        · simp only [hji, if_false, ← this, List.mem_append, List.mem_cons, false_or]
      · intro k hk' e he
        by_cases hki : k = i
        · subst hki; exact getD_set_true (hon e he)
        · rw [getD_set_ne false (Ne.symm hki)] at hk'
          exact getD_set_true (hcl k hk' e he)
      · rcases hcd with h' | h'
        · exact .inl (getD_set_true h')
        · exact .inr (getD_set_true h')
/-- both still to be drawn: the order of the text, and the one with d ahead of all -/
theorem anyX (hx : SerX ops E c d) (hQ : NoDeath Q) : ∀ (fuel : Nat) (l : List Nat) (listed : Array Bool), l.length = fuel → l.Pairwise (· < ·) → (∀ j, j ∈ l ↔ listed.getD j true = false) → listed.size = ops.size →
    (∀ k, listed.getD k false = true → ∀ e ∈ onOf ops k, listed.getD e false = true) → listed.getD c true = false → listed.getD d true = false → ∀ a w, S w → wpIdx P ops Q S E l a w → wpIdx P ops Q S E (d :: l.filter (· != d)) a w → wpAnyH P .any ops Q S fuel listed a w := by
  intro fuel
  induction fuel with
  | zero =>
    intro l listed hl _ hm _ _ hc _ a w _ _ _
    obtain rfl : l = [] := List.eq_nil_of_length_eq_zero hl
    exact absurd ((hm c).2 hc) (by simp)
  | succ fuel ih =>
    intro l listed hl hsort hm hsz hcl hc hd a w hS h h2
    cases l with
    | nil => cases hl
    | cons x xs =>
      refine ⟨fun hr => absurd hr (ready_some hx hsort hm hsz), fun i hi => ?_⟩
      obtain ⟨hun, oi, hoi, hall⟩ := mem_ready.1 hi
      have hil := (hm i).2 hun
      have hin := mem_inb hsz hun
      have hcn := (unlisted_iff hsz (mem_inb hsz hc)).1 hc
      have hdn := (unlisted_iff hsz (mem_inb hsz hd)).1 hd
      obtain ⟨l1, l2, hsplit⟩ := List.append_of_mem hil
      rw [hsplit] at h hsort hl h2
      have hon : ∀ e ∈ onOf ops i, listed.getD e false = true := fun e he => by
        obtain ⟨x, hx, hb, rfl⟩ := (mem_onOf hoi).1 he
        exact hall x hx hb
      have hlt : ∀ j ∈ l1, j < i := fun j hj => (List.pairwise_append.1 hsort).2.2 j hj i (List.mem_cons_self ..)
      have hnd : ∀ j ∈ l1 ++ l2, j ≠ i := by
        intro j hj
        rcases List.mem_append.1 hj with h' | h'
        · exact Nat.ne_of_lt (hlt j h')
        · exact Nat.ne_of_gt ((List.pairwise_cons.1 (List.pairwise_append.1 hsort).2.1).1 j h')
      have hlen : (l1 ++ l2).length = fuel := by simp at hl ⊢; omega
      have hsort' : (l1 ++ l2).Pairwise (· < ·) := hsort.sublist (by simp)
      have hm' : ∀ j, j ∈ l1 ++ l2 ↔ (listed.setIfInBounds i true).getD j true = false := by
        intro j
        rw [setD hsz hin]
        have := hm j
        rw [hsplit] at this
        by_cases hji : j = i
        · subst hji
          simp only [if_true, Bool.true_eq_false, iff_false]
          intro h'
          exact hnd _ h' rfl
        · simp only [hji, if_false, ← this, List.mem_append, List.mem_cons, false_or]
      have hsz' : (listed.setIfInBounds i true).size = ops.size := by simp [hsz]
      have hcl' : ∀ k, (listed.setIfInBounds i true).getD k false = true → ∀ e ∈ onOf ops k, (listed.setIfInBounds i true).getD e false = true := by
        intro k hk' e he
        by_cases hki : k = i
        · subst hki; exact getD_set_true (hon e he)
        · rw [getD_set_ne false (Ne.symm hki)] at hk'
          exact getD_set_true (hcl k hk' e he)
      have hin' : (listed.setIfInBounds i true).getD i false = true := by simp [Array.getD_eq_getD_getElem?, hsz, hin]
      have inl1 : ∀ j ∈ l1, ∃ oj, ops[j]? = some oj ∧ oj.apart ops oi = true ∧ ¬ listed.getD j false = true := fun j hj => by
        have hjl : j ∈ x :: xs := by rw [hsplit]; exact List.mem_append_left _ hj
        have hjn := mem_inb hsz ((hm j).1 hjl)
        have hjun : ¬ listed.getD j false = true := (unlisted_iff hsz hjn).1 ((hm j).1 hjl)
        refine ⟨ops[j], by simp [hjn], ?_, hjun⟩
        rcases hx.ap i j oi ops[j] (hlt j hj) hoi (by simp [hjn]) with h' | h'
        · exact absurd (hon j h') hjun
        · exact h'
      by_cases hid : i = d
      · subst hid
        have hfil : (l1 ++ i :: l2).filter (· != i) = l1 ++ l2 := by
          rw [List.filter_append, List.filter_cons_of_neg (by simp), ← List.filter_append, List.filter_eq_self.2 (fun j hj => by simp [hnd j hj])]
        rw [hfil] at h2
        refine wpOp_mono (fun a' w' hk => ⟨hk.1, ?_⟩) (stepI_wpOp hS h2)
        exact anyX_after hx hQ fuel (l1 ++ l2) _ hlen hsort' hm' hsz' hcl' (.inr hin') a' w' hk.1 hk.2
      · by_cases hic : i = c
        · subst hic
          have hfront := wpIdx_front hoi hx.sel hQ l2 l1 (fun j hj => by
            obtain ⟨oj, hoj, hap, hjun⟩ := inl1 j hj
            refine ⟨oj, hoj, hap, ?_⟩
            rintro ⟨hei, hej⟩
            rcases hx.chain i j hei hej (hlt j hj) with ⟨h', _⟩ | h'
            · exact hid h'
            · exact hjun (downs_all (p := fun e => listed.getD e false = true) (fun k hk e he => hcl k hk e he) i _ hon j h')) a w hS h
          refine wpOp_mono (fun a' w' hk => ⟨hk.1, ?_⟩) (stepI_wpOp hS hfront)
          exact anyX_after hx hQ fuel (l1 ++ l2) _ hlen hsort' hm' hsz' hcl' (.inl hin') a' w' hk.1 hk.2
        · have hiE : E.contains i ≠ true := fun he => by
            rcases hx.rest i he with h' | h' | h'
            · exact hic h'
            · exact hid h'
            · exact hcn (downs_all (p := fun e => listed.getD e false = true) (fun k hk e he => hcl k hk e he) i _ hon c h')
          have f1 := wpIdx_front hoi hx.sel hQ l2 l1 (fun j hj => by
            obtain ⟨oj, hoj, hap, _⟩ := inl1 j hj
            exact ⟨oj, hoj, hap, fun ⟨he, _⟩ => hiE he⟩) a w hS h
          have hfil : (l1 ++ i :: l2).filter (· != d) = l1.filter (· != d) ++ i :: l2.filter (· != d) := by
            rw [List.filter_append, List.filter_cons_of_pos (by simp [hid])]
          rw [hfil] at h2
          have f2 := wpIdx_front hoi hx.sel hQ (l2.filter (· != d)) (d :: l1.filter (· != d)) (fun j hj => by
            rcases List.mem_cons.1 hj with rfl | hj
            · have hod : ops[j]? = some (ops[j]'hx.inb) := by simp [hx.inb]
              refine ⟨_, hod, ?_, fun ⟨he, _⟩ => hiE he⟩
              rcases Nat.lt_or_ge i j with h' | h'
              · exact hx.apd i oi _ h' hoi hod
              · rcases hx.ap i j oi _ (by omega) hoi hod with h'' | h''
                · exact absurd (hon j h'') hdn
                · exact h''
            · obtain ⟨oj, hoj, hap, _⟩ := inl1 j (List.mem_filter.1 hj).1
              exact ⟨oj, hoj, hap, fun ⟨he, _⟩ => hiE he⟩) a w hS h2
          obtain ⟨o, ho, f1⟩ := (f1 : stepI P ops Q S E i _ a w)
          obtain rfl : oi = o := Option.some.inj (hoi.symm.trans ho)
          obtain ⟨o, ho', f2⟩ := (f2 : stepI P ops Q S E i _ a w)
          obtain rfl : oi = o := Option.some.inj (hoi.symm.trans ho')
          rcases f1 with ⟨v, hy, k1⟩ | ⟨he, _⟩
          · rcases f2 with ⟨u, hy', k2⟩ | ⟨he, _⟩
            · obtain rfl := YieldsIf.one hS hy hy'
              refine wpOp_mono (fun a' w' hk => ⟨hk.1, ?_⟩) (hy.wpOp (K := fun a' w' => S w' ∧ wpIdx P ops Q S E (l1 ++ l2) a' w' ∧ wpIdx P ops Q S E (d :: (l1 ++ l2).filter (· != d)) a' w') hoi hS ⟨hS, k1, by rw [List.filter_append]; exact k2⟩)
              refine ih (l1 ++ l2) _ hlen hsort' hm' hsz' hcl' ?_ ?_ a' w' hk.1 hk.2.1 hk.2.2
              · rw [setD hsz hin, if_neg (Ne.symm hic)]; exact hc
              · rw [setD hsz hin, if_neg (Ne.symm hid)]; exact hd
            · exact absurd he hiE
          · exact absurd he hiE
/-- a list of operations in another order -/
theorem wpSer_perm {E' : List Nat} : ∀ (l : List Oper) (is : List Nat) (i : Nat), l.length = is.length → (∀ (k : Nat) (j : Nat), is[k]? = some j → l[k]? = ops[j]? ∧ (E'.contains (i + k) = true → E.contains j = true)) → ∀ a w, S w → wpSer P ops Q S E' i l a w → wpIdx P ops Q S E is a w
  | [], [], _, _, _, _, _, _, h => h
  | o :: l, j :: is, i, hl, hk, a, w, hS, h => by
    obtain ⟨h0, h1⟩ := hk 0 j rfl
    have hk' : ∀ (k : Nat) (j : Nat), is[k]? = some j → l[k]? = ops[j]? ∧ (E'.contains (i + 1 + k) = true → E.contains j = true) := fun k j hj => by
      have := hk (k + 1) j (by simpa using hj)
      simpa [Nat.add_assoc, Nat.add_comm 1 k] using this
    show stepI P ops Q S E j (wpIdx P ops Q S E is) a w
    refine ⟨o, by simpa using h0.symm, ?_⟩
    rcases h with ⟨v, hy, h⟩ | ⟨he, hw, h⟩
    · exact .inl ⟨v, hy, wpSer_perm l is (i + 1) (by simpa using hl) hk' _ _ hS h⟩
    · exact .inr ⟨h1 (by simpa using he), hw, Oper.wp_mono (fun a' w' hk => ⟨hk.1, wpSer_perm l is (i + 1) (by simpa using hl) hk' a' w' hk.1 hk.2⟩) h⟩
def permI (d : Nat) : Nat → Nat
  | 0 => d
  | k + 1 => if k < d then k else k + 1
def permB (m : Nat) (E E' : List Nat) (d : Nat) : Bool := (List.range m).all fun k => !E'.contains k || E.contains (permI d k)
theorem range_split {n d : Nat} (h : d < n) : List.range' 0 n = List.range' 0 d ++ d :: List.range' (d + 1) (n - (d + 1)) := by
  have e : n = d + ((n - (d + 1)) + 1) := by omega
  conv => lhs; rw [e, ← List.range'_append_1, Nat.zero_add, List.range'_succ]
theorem range_filter {n d : Nat} (h : d < n) : (List.range' 0 n).filter (· != d) = List.range' 0 d ++ List.range' (d + 1) (n - (d + 1)) := by
  rw [range_split h, List.filter_append, List.filter_cons_of_neg (by simp), List.filter_eq_self.2, List.filter_eq_self.2]
  · intro a ha
    have := List.mem_range'_1.1 ha
    simp
    omega
  · intro a ha
    have := List.mem_range'_1.1 ha
    simp
    omega
theorem wp_region_ser2 {id : Nat} {l : List Oper} {a : Act} {w : World} (E : List Nat) (c d : Nat) (E' : List Nat) (S : World → Prop) (hm : P.follows .mixedOrders = true) (hser : serialX l.toArray E c d = true) (hE' : permB l.length E E' d = true) {od : Oper} (hod : l[d]? = some od) (hQ : NoDeath Q)
    (hS : S w.drew) (h : wpSer P l.toArray Q S E 0 l a w.drew) (h2 : wpSer P l.toArray Q S E' 0 (od :: (l.take d ++ l.drop (d + 1))) a w.drew) : (Code.region id l.toArray true).wp P Q a w := by
  have hx := serialX_spec hser
  have hdl : d < l.length := by simpa using hx.inb
  have hlt := hx.lt
  have hall : ∀ j : Nat, j < l.length → (Array.replicate l.toArray.size false).getD j true = false := by
    intro j hj
    rw [Array.getD_eq_getD_getElem?, Array.getElem?_replicate]
    simp [hj]
  refine wp_region_held (S := S) hm (anyX hx hQ l.toArray.size (List.range' 0 l.length) _ (by simp) (by rw [← List.range_eq_range']; exact List.pairwise_lt_range) ?_ (by simp) ?_ (hall c (by omega)) (hall d hdl) a w.drew hS (wpSer_idx l 0 (by simp) a w.drew hS h) ?_)
  · intro j
    simp only [List.mem_range'_1, Array.getD_eq_getD_getElem?, Array.getElem?_replicate, List.size_toArray]
    split
    · simp; omega
    · simp; omega
  · intro k hk
    simp only [Array.getD_eq_getD_getElem?, Array.getElem?_replicate] at hk
    split at hk <;> simp at hk
  · rw [range_filter hdl]
    refine wpSer_perm (E' := E') _ _ 0 (by simp; omega) (fun k j hk => ?_) a w.drew hS h2
    have hkl : k < l.length := by
      have := (List.getElem?_eq_some_iff.1 hk).1
      simp at this
      omega
    have hp : E'.contains k = true → E.contains (permI d k) = true := fun he => by
      have := List.all_eq_true.1 hE' k (List.mem_range.2 hkl)
      rw [he] at this
      exact this
    cases k with
    | zero =>
      simp at hk
      subst hk
      exact ⟨by simpa using hod.symm, fun he => hp (by simpa using he)⟩
    | succ k =>
      rw [List.getElem?_cons_succ] at hk
      have hj : j = if k < d then k else k + 1 := by
        rcases Nat.lt_or_ge k d with h' | h'
        · rw [List.getElem?_append_left (by simpa using h')] at hk
          simp [h'] at hk
          rw [if_pos h']
          exact hk.symm
        · rw [List.getElem?_append_right (by simpa using h')] at hk
          obtain ⟨h1, h2⟩ := List.getElem?_eq_some_iff.1 hk
          simp at h2
          rw [if_neg (by omega)]
          omega
      subst hj
      refine ⟨?_, fun he => hp (by simpa using he)⟩
      rw [List.getElem?_cons_succ]
      rcases Nat.lt_or_ge k d with h' | h'
      · rw [List.getElem?_append_left (by simp; omega), if_pos h']
        simp [h']
      · rw [List.getElem?_append_right (by simp; omega), if_neg (by omega), List.getElem?_drop]
        have e : d + 1 + (k - (List.take d l).length) = k + 1 := by simp; omega
        rw [e]
        simp
end
section
variable {P : Program} {n : Nat} {M : Me} {Q : Post} {t : Fr} {L : List Ck}
/-- a drawn region with one loud operation (d) that may be drawn ahead of another (c): two ways; the second's list has d at its head, E' tells its loud ones' places there -/
theorem cx_draw2 {id : Nat} {l : List Oper} (E : List Nat) (c d : Nat) (E' : List Nat) (L0 : List Ck) (hm' : P.follows .mixedOrders = true) (hser : serialX l.toArray E c d = true) (hE' : permB l.length E E' d = true) {od : Oper} (hod : l[d]? = some od) (hg : Gives L L0)
    (h : LX P n M l.toArray (.any E L0) 0 l Q t L) (h2 : LX P n M l.toArray (.any E' L0) 0 (od :: (l.take d ++ l.drop (d + 1))) Q t L) : CX P n M (.region id l.toArray true) Q t L := fun a _ hf hm =>
  wp_region_ser2 E c d E' (Mem M L0) hm' hser hE' hod (QQ.noDeath Q) (hg M _ hm.drew) (h hg a _ hf hm.drew) (h2 hg a _ hf hm.drew)
end
end Go.Proofs.Ytmochicneilhhaa
