/- A region that draws its order, of which two loud operations (c, d) may come in either order: what stands ahead of both (p1) is gone through once, what is left in two orders (r1: c first, r2: d first). -/
import Derived.Test.YtmochicneilhhaaSd
namespace Go.Proofs.Ytmochicneilhhaa
open Go.RowKit
section
variable {P : Program} {ops : Array Oper} {Q Q' : Exit → Act → World → Prop} {S S1 : World → Prop} {E : List Nat} {K0 : Act → World → Prop}
structure OkX (ops : Array Oper) (E : List Nat) (x y j i : Nat) : Prop where
  ne : j ≠ i
  ap : ∀ oi oj, ops[i]? = some oi → ops[j]? = some oj → j ∈ onOf ops i ∨ oj.apart ops oi = true
  chain : E.contains i = true → E.contains j = true → (j = x ∧ i = y) ∨ j ∈ downs ops i (onOf ops i)
def okXB (ops : Array Oper) (E : List Nat) (x y j i : Nat) : Bool :=
  (!Nat.beq j i && ((onOf ops i).contains j || match ops[j]?, ops[i]? with
      | some oj, some oi => oj.apart ops oi
      | _, _ => true)) && (!(E.contains i && E.contains j) || ((Nat.beq j x && Nat.beq i y) || (downs ops i (onOf ops i)).contains j))
theorem okXB_spec {x y j i : Nat} (h : okXB ops E x y j i = true) : OkX ops E x y j i := by
  simp only [okXB, Bool.and_eq_true, Bool.or_eq_true, Bool.not_eq_true'] at h
  obtain ⟨⟨h1, h2⟩, h3⟩ := h
  refine ⟨fun he => by subst he; simp at h1, fun oi oj hi hj => ?_, fun hi hj => ?_⟩
  · rw [hi, hj] at h2
    simpa using h2
  · rw [hi, hj] at h3
    rcases h3 with h3 | h3
    · cases h3
    · rcases h3 with ⟨h4, h5⟩ | h3
      · exact .inl ⟨Nat.eq_of_beq_eq_true h4, Nat.eq_of_beq_eq_true h5⟩
      · exact .inr (by simpa using h3)
def serialF (ops : Array Oper) (E p1 : List Nat) (c d : Nat) (r1 r2 : List Nat) : Bool :=
  Region.noSelect ops &&
  (List.range ops.size).all (fun i => (onOf ops i).all (fun j => decide (j < i))) &&
  pairsB (okXB ops E c d) (p1 ++ r1) && pairsB (okXB ops E d c) (p1 ++ r2) &&
  (List.range ops.size).all (fun i => (p1 ++ r1).contains i && (p1 ++ r2).contains i) && (p1 ++ r1).all (fun i => decide (i < ops.size)) && (p1 ++ r2).all (fun i => decide (i < ops.size)) && decide ((p1 ++ r1).length = ops.size) && decide ((p1 ++ r2).length = ops.size) &&
  r1.contains c && r1.contains d && r2.contains c && r2.contains d && E.contains c && E.contains d && r1.all (fun i => !E.contains i || Nat.beq i c || Nat.beq i d || (downs ops i (onOf ops i)).contains c) && !Nat.beq c d
structure SerF (ops : Array Oper) (E p1 : List Nat) (c d : Nat) (r1 r2 : List Nat) : Prop where
  sel : ∀ (j : Nat) (o : Oper) cs b, ops[j]? = some o → o.op ≠ .select cs b
  back : ∀ i, i < ops.size → ∀ j ∈ onOf ops i, j < i
  pairs1 : (p1 ++ r1).Pairwise (OkX ops E c d)
  pairs2 : (p1 ++ r2).Pairwise (OkX ops E d c)
  mem1 : ∀ i, i ∈ p1 ++ r1 ↔ i < ops.size
  mem2 : ∀ i, i ∈ p1 ++ r2 ↔ i < ops.size
  len1 : (p1 ++ r1).length = ops.size
  len2 : (p1 ++ r2).length = ops.size
  c1 : c ∈ r1
  d1 : d ∈ r1
  c2 : c ∈ r2
  d2 : d ∈ r2
  ec : E.contains c = true
  ed : E.contains d = true
  wait : ∀ i ∈ r1, E.contains i = true → i = c ∨ i = d ∨ c ∈ downs ops i (onOf ops i)
  ne : c ≠ d
theorem serialF_spec {p1 r1 r2 : List Nat} {c d : Nat} (h : serialF ops E p1 c d r1 r2 = true) : SerF ops E p1 c d r1 r2 := by
  simp only [serialF, Bool.and_eq_true, List.all_eq_true, decide_eq_true_eq] at h
  obtain ⟨⟨⟨⟨⟨⟨⟨⟨⟨⟨⟨⟨⟨⟨⟨⟨hsel, hback⟩, hp1⟩, hp2⟩, hmem⟩, hlt1⟩, hlt2⟩, hl1⟩, hl2⟩, hc1⟩, hd1⟩, hc2⟩, hd2⟩, hec⟩, hed⟩, hw⟩, hne⟩ := h
  refine ⟨fun j o cs b ho => Region.noSelect_spec hsel j o cs b ho, fun i hi => hback i (List.mem_range.2 hi), (pairsB_spec hp1).imp okXB_spec, (pairsB_spec hp2).imp okXB_spec, fun i => ⟨hlt1 i, fun hi => List.contains_iff_mem.1 (hmem i (List.mem_range.2 hi)).1⟩, fun i => ⟨hlt2 i, fun hi => List.contains_iff_mem.1 (hmem i (List.mem_range.2 hi)).2⟩, hl1, hl2,
    List.contains_iff_mem.1 hc1, List.contains_iff_mem.1 hd1, List.contains_iff_mem.1 hc2, List.contains_iff_mem.1 hd2, hec, hed, fun i hi he => ?_, fun he => by subst he; simp at hne⟩
  have := hw i hi
  simp only [Bool.or_eq_true, Bool.not_eq_true'] at this
  rcases this with ((h | h) | h) | h
  · rw [he] at h; cases h
  · exact .inl (Nat.eq_of_beq_eq_true h)
  · exact .inr (.inl (Nat.eq_of_beq_eq_true h))
  · exact .inr (.inr (List.contains_iff_mem.1 h))
theorem keepX {x y i : Nat} {oi : Oper} {l1 l2 : List Nat} {listed : Array Bool} (hin : i < ops.size) (hp : (l1 ++ i :: l2).Pairwise (OkX ops E x y)) (hm : ∀ j, j ∈ l1 ++ i :: l2 ↔ listed.getD j true = false) (hsz : listed.size = ops.size)
    (hcl : ∀ k, listed.getD k false = true → ∀ e ∈ onOf ops k, listed.getD e false = true) (hoi : ops[i]? = some oi) (hon : ∀ e ∈ onOf ops i, listed.getD e false = true) :
    (l1 ++ l2).Pairwise (OkX ops E x y) ∧ (∀ j, j ∈ l1 ++ l2 ↔ (listed.setIfInBounds i true).getD j true = false) ∧ (listed.setIfInBounds i true).size = ops.size ∧
      (∀ k, (listed.setIfInBounds i true).getD k false = true → ∀ e ∈ onOf ops k, (listed.setIfInBounds i true).getD e false = true) ∧
      (∀ j ∈ l1, ∃ oj, ops[j]? = some oj ∧ oj.apart ops oi = true ∧ (E.contains i = true → E.contains j = true → j = x ∧ i = y)) ∧ (∀ j ∈ l1 ++ l2, j ≠ i) := by
  have hno : ∀ j ∈ l1, ¬ listed.getD j false = true := fun j hj => by
    have hjl : j ∈ l1 ++ i :: l2 := List.mem_append_left _ hj
    exact (unlisted_iff hsz (mem_inb hsz ((hm j).1 hjl))).1 ((hm j).1 hjl)
  have hpi : ∀ j ∈ l1, OkX ops E x y j i := fun j hj => (List.pairwise_append.1 hp).2.2 j hj i (List.mem_cons_self ..)
  have hnd : ∀ j ∈ l1 ++ l2, j ≠ i := by
    intro j hj
    rcases List.mem_append.1 hj with h' | h'
    · exact (hpi j h').ne
    · exact ((List.pairwise_cons.1 (List.pairwise_append.1 hp).2.1).1 j h').ne.symm
  refine ⟨hp.sublist (by simp), fun j => ?_, by simp [hsz], fun k hk' e he => ?_, fun j hj => ?_, hnd⟩
  · rw [setD hsz hin]
    have := hm j
    by_cases hji : j = i
    · subst hji
      simp only [if_true, Bool.true_eq_false, iff_false]
      intro h'
      exact hnd _ h' rfl
    · simp only [hji, if_false, ← this, List.mem_append, List.mem_cons, false_or]
  · by_cases hki : k = i
    · subst hki; exact getD_set_true (hon e he)
    · rw [getD_set_ne false (Ne.symm hki)] at hk'
      exact getD_set_true (hcl k hk' e he)
  · have hjn := mem_inb hsz ((hm j).1 (List.mem_append_left _ hj))
    refine ⟨ops[j], by simp [hjn], ?_, ?_⟩
    · rcases (hpi j hj).ap oi ops[j] hoi (by simp [hjn]) with h' | h'
      · exact absurd (hon j h') (hno j hj)
      · exact h'
    · intro hei hej
      rcases (hpi j hj).chain hei hej with h' | h'
      · exact h'
      · exact absurd (downs_all (p := fun e => listed.getD e false = true) (fun k hk e he => hcl k hk e he) i _ hon j h') (hno j hj)
theorem wpK_mono {K K' : Act → World → Prop} (h : ∀ a w, S w → K a w → K' a w) : ∀ (l : List Nat) (a : Act) (w : World), S w → wpK P ops Q S E K l a w → wpK P ops Q S E K' l a w
  | [], a, w, hS, hk => h a w hS hk
  | _ :: l, _, _, hS, hk => stepI_mono (fun a' w' hs hk => wpK_mono h l a' w' hs hk) hS hk
theorem wpK_app {l2 : List Nat} : ∀ (l : List Nat) (a : Act) (w : World), wpK P ops Q S E (wpK P ops Q S E K0 l2) l a w → wpK P ops Q S E K0 (l ++ l2) a w
  | [], _, _, h => h
  | i :: l, a, w, h => by
    obtain ⟨o, ho, h⟩ := h
    refine ⟨o, ho, ?_⟩
    rcases h with ⟨v, hy, h⟩ | ⟨he, hw, h⟩
    · exact .inl ⟨v, hy, wpK_app l _ _ h⟩
    · exact .inr ⟨he, hw, Oper.wp_mono (fun a' w' hk => ⟨hk.1, wpK_app l a' w' hk.2⟩) h⟩
theorem wpK_idx {r : List Nat} : ∀ (l : List Nat) (a : Act) (w : World), wpK P ops Q S E (wpIdx P ops Q S E r) l a w → wpIdx P ops Q S E (l ++ r) a w
  | [], _, _, h => h
  | i :: l, a, w, h => by
    obtain ⟨o, ho, h⟩ := h
    refine ⟨o, ho, ?_⟩
    rcases h with ⟨v, hy, h⟩ | ⟨he, hw, h⟩
    · exact .inl ⟨v, hy, wpK_idx l _ _ h⟩
    · exact .inr ⟨he, hw, Oper.wp_mono (fun a' w' hk => ⟨hk.1, wpK_idx l a' w' hk.2⟩) h⟩
/-- two ways behind one quiet operation -/
theorem stepI_both {i : Nat} {K K' : Act → World → Prop} {a : Act} {w : World} (hS : S w) (hq : ¬ E.contains i = true) (h : stepI P ops Q S E i K a w) (h' : stepI P ops Q S E i K' a w) : stepI P ops Q S E i (fun a w => K a w ∧ K' a w) a w := by
  obtain ⟨o, ho, h⟩ := h
  obtain ⟨o', ho', h'⟩ := h'
  obtain rfl : o = o' := Option.some.inj (ho.symm.trans ho')
  rcases h with ⟨v, hy, h⟩ | ⟨he, _⟩
  · rcases h' with ⟨v', hy', h'⟩ | ⟨he, _⟩
    · obtain rfl := YieldsIf.one hS hy hy'
      exact ⟨o, ho, .inl ⟨v, hy, h, h'⟩⟩
    · exact absurd he hq
  · exact absurd he hq
theorem OkX.toP {x y : Nat} {l : List Nat} (h : l.Pairwise (OkX ops E x y)) (hx : x ∉ l) : l.Pairwise (OkP ops E) :=
  h.imp_of_mem fun hj _ hk => ⟨hk.ne, hk.ap, fun hi hj' => (hk.chain hi hj').resolve_left fun e => hx (e.1 ▸ hj)⟩
/-- the first of the two is drawn: from here on there is one order -/
theorem takeX (hsel : ∀ (j : Nat) (o : Oper) cs b, ops[j]? = some o → o.op ≠ .select cs b) (hback : ∀ i, i < ops.size → ∀ j ∈ onOf ops i, j < i) (hQ : NoDeath Q) {x y fuel : Nat} {l r : List Nat} {listed : Array Bool} {oi : Oper} (hxy : x ≠ y) (hr : x ∈ r) (ex : E.contains x = true)
    (hl : (l ++ r).length = fuel + 1) (hp : (l ++ r).Pairwise (OkX ops E x y)) (hm : ∀ j, j ∈ l ++ r ↔ listed.getD j true = false) (hsz : listed.size = ops.size) (hcl : ∀ k, listed.getD k false = true → ∀ e ∈ onOf ops k, listed.getD e false = true)
    (hin : x < ops.size) (hoi : ops[x]? = some oi) (hon : ∀ e ∈ onOf ops x, listed.getD e false = true) (a : Act) (w : World) (hS : S w) (h : wpK P ops Q S E (wpIdx P ops Q S E r) l a w) :
    wpOp P ops Q x (fun a' w' => S w' ∧ wpAnyH P .any ops Q S fuel (listed.setIfInBounds x true) a' w') a w := by
  obtain ⟨a1, a2, rfl⟩ := List.append_of_mem hr
  have e : l ++ (a1 ++ x :: a2) = (l ++ a1) ++ x :: a2 := by simp
  rw [e] at hp hl
  simp only [e] at hm
  obtain ⟨k1, k2, k3, k4, k5, k6⟩ := keepX hin hp hm hsz hcl hoi hon
  have h' := wpK_idx l a w h
  rw [e] at h'
  have hf := wpIdx_front hoi hsel hQ a2 (l ++ a1) (fun j hj => by
    obtain ⟨oj, q1, q2, q3⟩ := k5 j hj
    exact ⟨oj, q1, q2, fun ⟨_, hej⟩ => hxy (q3 ex hej).2⟩) a w hS h'
  refine wpOp_mono (fun a' w' hk => ?_) (stepI_wpOp hS hf)
  exact ⟨hk.1, anyP hsel hback hQ (S := S) (S1 := S) (fun _ h => h) fuel ((l ++ a1) ++ a2) _ (by simp at hl ⊢; omega) (OkX.toP k1 fun hx => k6 x hx rfl) k2 k3 k4 a' w' hk.1 hk.2⟩
theorem anyF (hsel : ∀ (j : Nat) (o : Oper) cs b, ops[j]? = some o → o.op ≠ .select cs b) (hback : ∀ i, i < ops.size → ∀ j ∈ onOf ops i, j < i) (hQ : NoDeath Q) {c d : Nat} (hne : c ≠ d) (ec : E.contains c = true) (ed : E.contains d = true) : ∀ (fuel : Nat) (l r1 r2 : List Nat) (listed : Array Bool),
    (l ++ r1).length = fuel → (l ++ r2).length = fuel → (l ++ r1).Pairwise (OkX ops E c d) → (l ++ r2).Pairwise (OkX ops E d c) → (∀ j, j ∈ l ++ r1 ↔ listed.getD j true = false) → (∀ j, j ∈ l ++ r2 ↔ listed.getD j true = false) → listed.size = ops.size →
    (∀ k, listed.getD k false = true → ∀ e ∈ onOf ops k, listed.getD e false = true) → c ∈ r1 → d ∈ r1 → c ∈ r2 → d ∈ r2 → (∀ i ∈ r1, E.contains i = true → i = c ∨ i = d ∨ c ∈ downs ops i (onOf ops i)) →
    ∀ a w, S w → wpK P ops Q S E (fun a w => wpIdx P ops Q S E r1 a w ∧ wpIdx P ops Q S E r2 a w) l a w → wpAnyH P .any ops Q S fuel listed a w := by
  intro fuel
  induction fuel with
  | zero =>
    intro l r1 r2 listed hl1 _ _ _ _ _ _ _ hc1
    have := List.length_pos_of_mem hc1
    rw [List.length_append] at hl1
    omega
  | succ fuel ih =>
    intro l r1 r2 listed hl1 hl2 hp1 hp2 hm1 hm2 hsz hcl hc1 hd1 hc2 hd2 hw a w hS h
    refine ⟨fun hr => absurd hr (ready_any hback (fun he => by have := List.length_pos_of_mem hc1; rw [he] at hl1; cases hl1) hm1 hsz), fun i hi => ?_⟩
    obtain ⟨hun, oi, hoi, hall⟩ := mem_ready.1 hi
    have hin := mem_inb hsz hun
    have hon : ∀ e ∈ onOf ops i, listed.getD e false = true := fun e he => by
      obtain ⟨x, hx, hb, rfl⟩ := (mem_onOf hoi).1 he
      exact hall x hx hb
    have hcn : ¬ listed.getD c false = true := by
      have : c ∈ l ++ r1 := List.mem_append_right _ hc1
      exact (unlisted_iff hsz (mem_inb hsz ((hm1 c).1 this))).1 ((hm1 c).1 this)
    rcases List.mem_append.1 ((hm1 i).2 hun) with hil | hil
    · obtain ⟨l1, l2, rfl⟩ := List.append_of_mem hil
      have e1 : (l1 ++ i :: l2) ++ r1 = l1 ++ i :: (l2 ++ r1) := by simp
      have e2 : (l1 ++ i :: l2) ++ r2 = l1 ++ i :: (l2 ++ r2) := by simp
      rw [e1] at hp1 hl1
      rw [e2] at hp2 hl2
      simp only [e1] at hm1
      simp only [e2] at hm2
      obtain ⟨k1, k2, k3, k4, k5, k6⟩ := keepX hin hp1 hm1 hsz hcl hoi hon
      obtain ⟨j1, j2, _, _, _, _⟩ := keepX hin hp2 hm2 hsz hcl hoi hon
      rw [← List.append_assoc] at k1 j1
      simp only [← List.append_assoc] at k2 j2
      refine wpOp_mono (fun a' w' hk => ?_) (stepI_wpOp hS (wpK_front hoi hsel hQ l2 l1 (fun j hj => by
        obtain ⟨oj, q1, q2, q3⟩ := k5 j hj
        refine ⟨oj, q1, q2, fun ⟨hei, hej⟩ => ?_⟩
        obtain ⟨_, hid⟩ := q3 hei hej
        exact k6 d (by simp [hd1]) hid.symm) a w hS h))
      exact ⟨hk.1, ih (l1 ++ l2) r1 r2 _ (by simp at hl1 ⊢; omega) (by simp at hl2 ⊢; omega) k1 j1 k2 j2 k3 k4 hc1 hd1 hc2 hd2 hw a' w' hk.1 hk.2⟩
    · by_cases hei : E.contains i = true
      · rcases hw i hil hei with rfl | rfl | hdn
        · exact takeX hsel hback hQ hne hc1 ec hl1 hp1 hm1 hsz hcl hin hoi hon a w hS (wpK_mono (fun _ _ _ h => h.1) l a w hS h)
        · exact takeX hsel hback hQ (Ne.symm hne) hd2 ed hl2 hp2 hm2 hsz hcl hin hoi hon a w hS (wpK_mono (fun _ _ _ h => h.2) l a w hS h)
        · exact absurd (downs_all (p := fun e => listed.getD e false = true) (fun k hk e he => hcl k hk e he) i _ hon c hdn) hcn
      · have hil2 : i ∈ r2 := by
          rcases List.mem_append.1 ((hm2 i).2 hun) with h' | h'
          · exact absurd rfl ((List.pairwise_append.1 hp1).2.2 i h' i hil).ne
          · exact h'
        have hic : c ≠ i := fun e => hei (e ▸ ec)
        have hid : d ≠ i := fun e => hei (e ▸ ed)
        obtain ⟨a1, a2, rfl⟩ := List.append_of_mem hil
        obtain ⟨b1, b2, rfl⟩ := List.append_of_mem hil2
        have e1 : l ++ (a1 ++ i :: a2) = (l ++ a1) ++ i :: a2 := by simp
        have e2 : l ++ (b1 ++ i :: b2) = (l ++ b1) ++ i :: b2 := by simp
        rw [e1] at hp1 hl1
        rw [e2] at hp2 hl2
        simp only [e1] at hm1
        simp only [e2] at hm2
        obtain ⟨k1, k2, k3, k4, k5, k6⟩ := keepX hin hp1 hm1 hsz hcl hoi hon
        obtain ⟨j1, j2, _, _, j5, _⟩ := keepX hin hp2 hm2 hsz hcl hoi hon
        have f1 : ∀ j ∈ l ++ a1, ∃ oj, ops[j]? = some oj ∧ oj.apart ops oi = true ∧ ¬ (E.contains i = true ∧ E.contains j = true) := fun j hj => by
          obtain ⟨oj, q1, q2, _⟩ := k5 j hj
          exact ⟨oj, q1, q2, fun hh => hei hh.1⟩
        have f2 : ∀ j ∈ l ++ b1, ∃ oj, ops[j]? = some oj ∧ oj.apart ops oi = true ∧ ¬ (E.contains i = true ∧ E.contains j = true) := fun j hj => by
          obtain ⟨oj, q1, q2, _⟩ := j5 j hj
          exact ⟨oj, q1, q2, fun hh => hei hh.1⟩
        have h1 : wpK P ops Q S E (wpK P ops Q S E (fun a w => wpIdx P ops Q S E (a1 ++ a2) a w ∧ wpIdx P ops Q S E (b1 ++ b2) a w) [i]) l a w :=
          wpK_mono (fun a' w' hs hk => stepI_both hs hei (wpIdx_front hoi hsel hQ a2 a1 (fun j hj => f1 j (List.mem_append_right _ hj)) a' w' hs hk.1) (wpIdx_front hoi hsel hQ b2 b1 (fun j hj => f2 j (List.mem_append_right _ hj)) a' w' hs hk.2)) l a w hS h
        have h2 := wpK_front hoi hsel hQ [] l (fun j hj => f1 j (List.mem_append_left _ hj)) a w hS (wpK_app l a w h1)
        rw [List.append_nil] at h2
        rw [List.append_assoc] at k1 j1
        simp only [List.append_assoc] at k2 j2
        have hmem : ∀ {x : Nat} {u v : List Nat}, x ≠ i → x ∈ u ++ i :: v → x ∈ u ++ v := fun {x u v} hx hh => by
          rcases List.mem_append.1 hh with h' | h'
          · exact List.mem_append_left _ h'
          · rcases List.mem_cons.1 h' with h' | h'
            · exact absurd h' hx
            · exact List.mem_append_right _ h'
        refine wpOp_mono (fun a' w' hk => ?_) (stepI_wpOp hS h2)
        exact ⟨hk.1, ih l (a1 ++ a2) (b1 ++ b2) _ (by simp at hl1 ⊢; omega) (by simp at hl2 ⊢; omega) k1 j1 k2 j2 k3 k4 (hmem hic hc1) (hmem hid hd1) (hmem hic hc2) (hmem hid hd2) (fun x hx => hw x (by
          rcases List.mem_append.1 hx with h' | h'
          · exact List.mem_append_left _ h'
          · exact List.mem_append_right _ (List.mem_cons_of_mem _ h'))) a' w' hk.1 hk.2⟩
end
section
variable {P : Program} {n : Nat} {M : Me} {Q : Post} {t : Fr} {L : List Ck}
/-- E: the loud ones; E1, E2, E3: their places in p1, r1, r2 -/
theorem cx_draw4 {id : Nat} {l : List Oper} (p1 : List Nat) (c d : Nat) (r1 r2 E E1 E2 E3 : List Nat) (L0 : List Ck) (hm' : P.follows .mixedOrders = true) (hser : serialF l.toArray E p1 c d r1 r2 = true) (hE1 : pickOB l.length E E1 p1 = true) (hE2 : pickOB l.length E E2 r1 = true) (hE3 : pickOB l.length E E3 r2 = true) (hg : Gives L L0)
    (h : LX P n M l.toArray (.any E1 L0) 0 (pickO l p1) (thenQ (fun t L => Gives L L0 ∧ LX P n M l.toArray (.any E2 L0) 0 (pickO l r1) Q t L ∧ LX P n M l.toArray (.any E3 L0) 0 (pickO l r2) Q t L) Q) t L) : CX P n M (.region id l.toArray true) Q t L := fun a w hf hm => by
  have hx := serialF_spec hser
  obtain ⟨a1, a2⟩ := pick_ok hE1
  obtain ⟨b1, b2⟩ := pick_ok hE2
  obtain ⟨c1, c2⟩ := pick_ok hE3
  have hun : ∀ j : Nat, j < l.toArray.size ↔ (Array.replicate l.toArray.size false).getD j true = false := fun j => by
    simp only [Array.getD_eq_getD_getElem?, Array.getElem?_replicate, List.size_toArray]
    split
    · simp; omega
    · simp; omega
  refine wp_region_held (S := Mem M L0) hm' (anyF hx.sel hx.back (QQ.noDeath Q) hx.ne hx.ec hx.ed l.toArray.size p1 r1 r2 _ hx.len1 hx.len2 hx.pairs1 hx.pairs2 (fun j => (hx.mem1 j).trans (hun j)) (fun j => (hx.mem2 j).trans (hun j)) (by simp) ?_ hx.c1 hx.d1 hx.c2 hx.d2 hx.wait a w.drew (hg M _ hm.drew) ?_)
  · intro k hk
    simp only [Array.getD_eq_getD_getElem?, Array.getElem?_replicate] at hk
    split at hk <;> simp at hk
  · refine wpSerK (QQ.noDeath _) ?_ _ _ 0 a1 a2 a w.drew (hg M _ hm.drew) (h hg a _ hf hm.drew)
    rintro a' w' hS ⟨t', L', hf', hm1, g0, h1, h2⟩
    exact ⟨wpSer_perm _ _ 0 b1 b2 a' w' hS (h1 g0 a' w' hf' hm1), wpSer_perm _ _ 0 c1 c2 a' w' hS (h2 g0 a' w' hf' hm1)⟩
end
end Go.Proofs.Ytmochicneilhhaa
