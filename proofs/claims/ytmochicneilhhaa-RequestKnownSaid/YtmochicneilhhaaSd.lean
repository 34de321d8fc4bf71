/- A region that draws its order, gone through in an order of one's own: first p1, then c, then p2. All of p2 wait for c, and may look at what c has made. -/
import Derived.Test.YtmochicneilhhaaSx
namespace Go.Proofs.Ytmochicneilhhaa
open Go.RowKit
section
variable {P : Program} {ops : Array Oper} {Q Q' : Exit → Act → World → Prop} {S S1 : World → Prop} {E : List Nat} {c : Nat} {K0 : Act → World → Prop}
/-- j stands ahead of i -/
def okB (ops : Array Oper) (E : List Nat) (j i : Nat) : Bool :=
  (!Nat.beq j i && ((onOf ops i).contains j || match ops[j]?, ops[i]? with
      | some oj, some oi => oj.apart ops oi
      | _, _ => true)) && (!(E.contains i && E.contains j) || (downs ops i (onOf ops i)).contains j)
def pairsB (f : Nat → Nat → Bool) : List Nat → Bool
  | [] => true
  | x :: xs => xs.all (f x) && pairsB f xs
theorem pairsB_spec {f : Nat → Nat → Bool} : ∀ {l : List Nat}, pairsB f l = true → l.Pairwise fun j i => f j i = true
  | [], _ => .nil
  | x :: xs, h => by
    simp only [pairsB, Bool.and_eq_true, List.all_eq_true] at h
    exact List.pairwise_cons.2 ⟨h.1, pairsB_spec h.2⟩
def serialP (ops : Array Oper) (E p1 : List Nat) (c : Nat) (p2 : List Nat) : Bool :=
  Region.noSelect ops &&
  (List.range ops.size).all (fun i => (onOf ops i).all (fun j => decide (j < i))) &&
  pairsB (okB ops E) ((p1 ++ [c]) ++ p2) && (List.range ops.size).all (fun i => ((p1 ++ [c]) ++ p2).contains i) && ((p1 ++ [c]) ++ p2).all (fun i => decide (i < ops.size)) && decide (((p1 ++ [c]) ++ p2).length = ops.size) &&
  E.contains c && p2.all (fun i => (downs ops i (onOf ops i)).contains c)
structure OkP (ops : Array Oper) (E : List Nat) (j i : Nat) : Prop where
  ne : j ≠ i
  ap : ∀ oi oj, ops[i]? = some oi → ops[j]? = some oj → j ∈ onOf ops i ∨ oj.apart ops oi = true
  chain : E.contains i = true → E.contains j = true → j ∈ downs ops i (onOf ops i)
theorem okB_spec {j i : Nat} (h : okB ops E j i = true) : OkP ops E j i := by
  simp only [okB, Bool.and_eq_true, Bool.or_eq_true, Bool.not_eq_true'] at h
  obtain ⟨⟨h1, h2⟩, h3⟩ := h
  refine ⟨fun he => by subst he; simp at h1, fun oi oj hi hj => ?_, fun hi hj => ?_⟩
  · rw [hi, hj] at h2
    simpa using h2
  · rw [hi, hj] at h3
    simpa using h3
structure SerP (ops : Array Oper) (E p1 : List Nat) (c : Nat) (p2 : List Nat) : Prop where
  sel : ∀ (j : Nat) (o : Oper) cs b, ops[j]? = some o → o.op ≠ .select cs b
  back : ∀ i, i < ops.size → ∀ j ∈ onOf ops i, j < i
  pairs : ((p1 ++ [c]) ++ p2).Pairwise (OkP ops E)
  mem : ∀ i, i ∈ (p1 ++ [c]) ++ p2 ↔ i < ops.size
  len : ((p1 ++ [c]) ++ p2).length = ops.size
  loud : E.contains c = true
  wait : ∀ i ∈ p2, c ∈ downs ops i (onOf ops i)
theorem serialP_spec {p1 p2 : List Nat} (h : serialP ops E p1 c p2 = true) : SerP ops E p1 c p2 := by
  simp only [serialP, Bool.and_eq_true, List.all_eq_true, decide_eq_true_eq] at h
  obtain ⟨⟨⟨⟨⟨⟨⟨hsel, hback⟩, hpairs⟩, hmem⟩, hlt⟩, hlen⟩, hloud⟩, hwait⟩ := h
  refine ⟨fun j o cs b ho => Region.noSelect_spec hsel j o cs b ho, fun i hi => hback i (List.mem_range.2 hi), (pairsB_spec hpairs).imp okB_spec, fun i => ⟨hlt i, fun hi => ?_⟩, hlen, hloud, fun i hi => ?_⟩
  · have := hmem i (List.mem_range.2 hi)
    exact List.contains_iff_mem.1 this
  · exact List.contains_iff_mem.1 (hwait i hi)

def wpK (P : Program) (ops : Array Oper) (Q : Exit → Act → World → Prop) (S : World → Prop) (E : List Nat) (K0 : Act → World → Prop) : List Nat → Act → World → Prop
  | [], a, w => K0 a w
  | i :: l, a, w => stepI P ops Q S E i (wpK P ops Q S E K0 l) a w
theorem wpK_front {i : Nat} {oi : Oper} (hi : ops[i]? = some oi) (hsel : ∀ (j : Nat) (o : Oper) cs b, ops[j]? = some o → o.op ≠ .select cs b) (hQ : NoDeath Q) (l2 : List Nat) :
    ∀ (l1 : List Nat), (∀ j ∈ l1, ∃ oj, ops[j]? = some oj ∧ oj.apart ops oi = true ∧ ¬ (E.contains i = true ∧ E.contains j = true)) →
      ∀ a w, S w → wpK P ops Q S E K0 (l1 ++ i :: l2) a w → wpK P ops Q S E K0 (i :: (l1 ++ l2)) a w
  | [], _, _, _, _, h => h
  | j :: l1, hl, a, w, hS, h => by
    obtain ⟨oj, hj, hap, hE⟩ := hl j (List.mem_cons_self ..)
    have h' : stepI P ops Q S E j (stepI P ops Q S E i (wpK P ops Q S E K0 (l1 ++ l2))) a w :=
      stepI_mono (fun a' w' hs hk => wpK_front hi hsel hQ l2 l1 (fun k hk => hl k (List.mem_cons_of_mem _ hk)) a' w' hs hk) hS h
    exact stepI_swap hi hj hap (hsel i oi · · hi) (hsel j oj · · hj) hQ hE h'
/-- what stands behind c -/
def Later (P : Program) (ops : Array Oper) (Q : Exit → Act → World → Prop) (S : World → Prop) (E l : List Nat) (a : Act) (w : World) : Prop :=
  ∃ S1 : World → Prop, (∀ w, S1 w → S w) ∧ S1 w ∧ wpIdx P ops Q S1 E l a w
theorem YieldsIf.less {o : Oper} {v : Value} {a : Act} (h : ∀ w, S1 w → S w) (hy : YieldsIf P ops S o v a) : YieldsIf P ops S1 o v a := by
  rcases hy with ⟨hw, hv⟩ | h2
  · exact .inl ⟨hw, fun w hs => hv w (h w hs)⟩
  · exact .inr h2
theorem quietK {p2 : List Nat} : ∀ (l1 : List Nat), (∀ j ∈ l1, ¬ E.contains j = true) → ∀ a w, wpK P ops Q S E (Later P ops Q S E p2) l1 a w → Later P ops Q S E (l1 ++ p2) a w
  | [], _, _, _, h => h
  | j :: l1, hl, a, w, h => by
    obtain ⟨o, ho, h⟩ := h
    rcases h with ⟨v, hy, h⟩ | ⟨he, _⟩
    · obtain ⟨S1, h1, h2, h3⟩ := quietK l1 (fun k hk => hl k (List.mem_cons_of_mem _ hk)) _ _ h
      exact ⟨S1, h1, h2, o, ho, .inl ⟨v, YieldsIf.less h1 hy, h3⟩⟩
    · exact absurd he (hl j (List.mem_cons_self ..))
theorem least : ∀ (l : List Nat), l ≠ [] → ∃ x ∈ l, ∀ y ∈ l, x ≤ y
  | [], h => absurd rfl h
  | [x], _ => ⟨x, by simp, by simp⟩
  | x :: y :: l, _ => by
    obtain ⟨z, hz, hle⟩ := least (y :: l) (by simp)
    rcases Nat.le_total x z with h | h
    · exact ⟨x, by simp, fun u hu => by
        rcases List.mem_cons.1 hu with rfl | hu
        · exact Nat.le_refl _
        · exact Nat.le_trans h (hle u hu)⟩
    · exact ⟨z, List.mem_cons_of_mem _ hz, fun u hu => by
        rcases List.mem_cons.1 hu with rfl | hu
        · exact h
        · exact hle u hu⟩
theorem ready_any (hback : ∀ i, i < ops.size → ∀ j ∈ onOf ops i, j < i) {l : List Nat} {listed : Array Bool} (hne : l ≠ []) (hm : ∀ j, j ∈ l ↔ listed.getD j true = false) (hsz : listed.size = ops.size) : Region.ready .any ops listed ≠ [] := by
  intro hr
  obtain ⟨x, hxl, hle⟩ := least l hne
  have hun := (hm x).1 hxl
  have hxn := mem_inb hsz hun
  have hx : x ∈ Region.ready .any ops listed := by
    refine mem_ready.2 ⟨hun, ops[x], by simp [hxn], fun e he hb => ?_⟩
    have hon : e.on ∈ onOf ops x := (mem_onOf (by simp [hxn])).2 ⟨e, he, hb, rfl⟩
    have hlt := hback x hxn e.on hon
    by_cases hc : listed.getD e.on false = true
    · exact hc
    · have := hle _ ((hm e.on).2 ((unlisted_iff hsz (by omega)).2 hc))
      omega
  rw [hr] at hx
  cases hx
/-- what is kept when number i is drawn -/
theorem keepP {i : Nat} {oi : Oper} {l1 l2 : List Nat} {listed : Array Bool} (hin : i < ops.size) (hp : (l1 ++ i :: l2).Pairwise (OkP ops E)) (hm : ∀ j, j ∈ l1 ++ i :: l2 ↔ listed.getD j true = false) (hsz : listed.size = ops.size)
    (hcl : ∀ k, listed.getD k false = true → ∀ e ∈ onOf ops k, listed.getD e false = true) (hoi : ops[i]? = some oi) (hon : ∀ e ∈ onOf ops i, listed.getD e false = true) :
    (l1 ++ l2).Pairwise (OkP ops E) ∧ (∀ j, j ∈ l1 ++ l2 ↔ (listed.setIfInBounds i true).getD j true = false) ∧ (listed.setIfInBounds i true).size = ops.size ∧
      (∀ k, (listed.setIfInBounds i true).getD k false = true → ∀ e ∈ onOf ops k, (listed.setIfInBounds i true).getD e false = true) ∧
      (∀ j ∈ l1, ∃ oj, ops[j]? = some oj ∧ oj.apart ops oi = true ∧ ¬ (E.contains i = true ∧ E.contains j = true)) := by
  have hno : ∀ j ∈ l1, ¬ listed.getD j false = true := fun j hj => by
    have hjl : j ∈ l1 ++ i :: l2 := List.mem_append_left _ hj
    exact (unlisted_iff hsz (mem_inb hsz ((hm j).1 hjl))).1 ((hm j).1 hjl)
  have hpi : ∀ j ∈ l1, OkP ops E j i := fun j hj => (List.pairwise_append.1 hp).2.2 j hj i (List.mem_cons_self ..)
  have hnd : ∀ j ∈ l1 ++ l2, j ≠ i := by
    intro j hj
    rcases List.mem_append.1 hj with h' | h'
    · exact (hpi j h').ne
    · exact ((List.pairwise_cons.1 (List.pairwise_append.1 hp).2.1).1 j h').ne.symm
  refine ⟨hp.sublist (by simp), fun j => ?_, by simp [hsz], fun k hk' e he => ?_, fun j hj => ?_⟩
  · rw [setD hsz hin]
    have := hm j
    by_cases hji : j = i
    · subst hji
      simp only [if_true, Bool.true_eq_false, iff_false]
      intro h'
      exact hnd _ h' rfl
    · simp only [hji, if_false, ← this, List.mem_append, List.mem_cons, false_or]
  · by_cases hki : k = i
    · subst hki; exact getD_set_true (hon e he)
    · rw [getD_set_ne false (Ne.symm hki)] at hk'
      exact getD_set_true (hcl k hk' e he)
  · have hjn := mem_inb hsz ((hm j).1 (List.mem_append_left _ hj))
    refine ⟨ops[j], by simp [hjn], ?_, ?_⟩
    · rcases (hpi j hj).ap oi ops[j] hoi (by simp [hjn]) with h' | h'
      · exact absurd (hon j h') (hno j hj)
      · exact h'
    · rintro ⟨hei, hej⟩
      exact hno j hj (downs_all (p := fun e => listed.getD e false = true) (fun k hk e he => hcl k hk e he) i _ hon j ((hpi j hj).chain hei hej))
theorem anyP (hsel : ∀ (j : Nat) (o : Oper) cs b, ops[j]? = some o → o.op ≠ .select cs b) (hback : ∀ i, i < ops.size → ∀ j ∈ onOf ops i, j < i) (hQ : NoDeath Q) (h1 : ∀ w, S1 w → S w) : ∀ (fuel : Nat) (l : List Nat) (listed : Array Bool), l.length = fuel → l.Pairwise (OkP ops E) → (∀ j, j ∈ l ↔ listed.getD j true = false) → listed.size = ops.size →
    (∀ k, listed.getD k false = true → ∀ e ∈ onOf ops k, listed.getD e false = true) → ∀ a w, S1 w → wpIdx P ops Q S1 E l a w → wpAnyH P .any ops Q S fuel listed a w := by
  intro fuel
  induction fuel with
  | zero =>
    intro l listed hl _ hm _ _ a w _ h
    obtain rfl : l = [] := List.eq_nil_of_length_eq_zero hl
    refine ⟨?_, h⟩
    rw [List.eq_nil_iff_forall_not_mem]
    intro j hj
    exact absurd ((hm j).2 (mem_ready.1 hj).1) (by simp)
  | succ fuel ih =>
    intro l listed hl hp hm hsz hcl a w hS h
    refine ⟨fun hr => absurd hr (ready_any hback (by intro he; rw [he] at hl; cases hl) hm hsz), fun i hi => ?_⟩
    obtain ⟨hun, oi, hoi, hall⟩ := mem_ready.1 hi
    have hin := mem_inb hsz hun
    obtain ⟨l1, l2, rfl⟩ := List.append_of_mem ((hm i).2 hun)
    have hon : ∀ e ∈ onOf ops i, listed.getD e false = true := fun e he => by
      obtain ⟨x, hx, hb, rfl⟩ := (mem_onOf hoi).1 he
      exact hall x hx hb
    obtain ⟨k1, k2, k3, k4, k5⟩ := keepP hin hp hm hsz hcl hoi hon
    refine wpOp_mono (fun a' w' hk => ⟨h1 _ hk.1, ?_⟩) (stepI_wpOp hS (wpIdx_front hoi hsel hQ l2 l1 k5 a w hS h))
    exact ih (l1 ++ l2) _ (by simp at hl ⊢; omega) k1 k2 k3 k4 a' w' hk.1 hk.2
theorem anyP2 {p1 p2 : List Nat} (hx : SerP ops E p1 c p2) (hQ : NoDeath Q) : ∀ (fuel : Nat) (l : List Nat) (listed : Array Bool), ((l ++ [c]) ++ p2).length = fuel → ((l ++ [c]) ++ p2).Pairwise (OkP ops E) → (∀ j, j ∈ (l ++ [c]) ++ p2 ↔ listed.getD j true = false) → listed.size = ops.size →
    (∀ k, listed.getD k false = true → ∀ e ∈ onOf ops k, listed.getD e false = true) → ∀ a w, S w → wpK P ops Q S E (Later P ops Q S E p2) (l ++ [c]) a w → wpAnyH P .any ops Q S fuel listed a w := by
  intro fuel
  induction fuel with
  | zero =>
    intro l listed hl
    simp at hl
  | succ fuel ih =>
    intro l listed hl hp hm hsz hcl a w hS h
    refine ⟨fun hr => absurd hr (ready_any hx.back (by simp) hm hsz), fun i hi => ?_⟩
    obtain ⟨hun, oi, hoi, hall⟩ := mem_ready.1 hi
    have hin := mem_inb hsz hun
    have hon : ∀ e ∈ onOf ops i, listed.getD e false = true := fun e he => by
      obtain ⟨x, hx, hb, rfl⟩ := (mem_onOf hoi).1 he
      exact hall x hx hb
    have hcn : ¬ listed.getD c false = true := by
      have : c ∈ (l ++ [c]) ++ p2 := by simp
      exact (unlisted_iff hsz (mem_inb hsz ((hm c).1 this))).1 ((hm c).1 this)
    rcases List.mem_append.1 ((hm i).2 hun) with hil | hil
    · rcases List.mem_append.1 hil with hil | hil
      · obtain ⟨l1, l2, rfl⟩ := List.append_of_mem hil
        have e : ((l1 ++ i :: l2) ++ [c]) ++ p2 = l1 ++ i :: ((l2 ++ [c]) ++ p2) := by simp
        have e2 : l1 ++ ((l2 ++ [c]) ++ p2) = ((l1 ++ l2) ++ [c]) ++ p2 := by simp
        rw [e] at hp hl
        simp only [e] at hm
        obtain ⟨k1, k2, k3, k4, k5⟩ := keepP hin hp hm hsz hcl hoi hon
        rw [e2] at k1
        simp only [e2] at k2
        have h : wpK P ops Q S E (Later P ops Q S E p2) (l1 ++ i :: (l2 ++ [c])) a w := by simpa using h
        refine wpOp_mono (fun a' w' hk => ⟨hk.1, ?_⟩) (stepI_wpOp hS (wpK_front hoi hx.sel hQ (l2 ++ [c]) l1 k5 a w hS h))
        exact ih (l1 ++ l2) _ (by simp at hl ⊢; omega) k1 k2 k3 k4 a' w' hk.1 (by simpa using hk.2)
      · obtain rfl : i = c := by simpa using hil
        have e : (l ++ [i]) ++ p2 = l ++ i :: p2 := by simp
        rw [e] at hp hl
        simp only [e] at hm
        obtain ⟨k1, k2, k3, k4, k5⟩ := keepP hin hp hm hsz hcl hoi hon
        refine wpOp_mono (fun a' w' hk => ⟨hk.1, ?_⟩) (stepI_wpOp hS (wpK_front hoi hx.sel hQ [] l k5 a w hS h))
        have hk2 : wpK P ops Q S E (Later P ops Q S E p2) l a' w' := by simpa using hk.2
        obtain ⟨S1, h1, h2, h3⟩ := quietK l (fun j hj he => by
          obtain ⟨_, _, _, hno⟩ := k5 j hj
          exact hno ⟨hx.loud, he⟩) a' w' hk2
        exact anyP hx.sel hx.back hQ h1 fuel (l ++ p2) _ (by simp at hl ⊢; omega) k1 k2 k3 k4 a' w' h2 h3
    · exact absurd (downs_all (p := fun e => listed.getD e false = true) (fun k hk e he => hcl k hk e he) i _ hon c (hx.wait i hil)) hcn
theorem wp_Q {o : Oper} {a : Act} {w : World} {K : Act → World → Prop} (hQ : NoDeath Q') (hh : o.wp P a w K Q') : o.wp P a w K Q := by
  unfold Oper.wp at *
  generalize (execOp a.eval o).run P w = r at *
  cases r with
  | ok n w' =>
    cases n <;> simp only [Oper.upon] at hh ⊢
    case value u => exact hh
    case skip => exact hh
    case defer d => exact hh
    case enter f args =>
      refine Calls.mono hh fun e w'' he => ?_
      cases e with
      | returned u => exact he
      | panicked c => exact absurd he (hQ.1 _ _ _)
      | outgrown => obtain ⟨a₀, w₀, hq⟩ := he; exact absurd hq (hQ.2 _ _)
    case row row args => exact hh
  | halt x w' =>
    cases x <;> simp only [Oper.upon] at hh ⊢
    case panic u => exact absurd hh (hQ.1 _ _ _)
theorem wpSerK {E' : List Nat} (hQ : NoDeath Q') (hn : ∀ a w, S w → Q' .normal a w → K0 a w) : ∀ (l : List Oper) (is : List Nat) (i : Nat), l.length = is.length → (∀ (k : Nat) (j : Nat), is[k]? = some j → l[k]? = ops[j]? ∧ (E'.contains (i + k) = true → E.contains j = true)) → ∀ a w, S w → wpSer P ops Q' S E' i l a w → wpK P ops Q S E K0 is a w
  | [], [], _, _, _, a, w, hS, h => hn a w hS h
  | o :: l, j :: is, i, hl, hk, a, w, hS, h => by
    obtain ⟨h0, h1⟩ := hk 0 j rfl
    have hk' : ∀ (k : Nat) (j : Nat), is[k]? = some j → l[k]? = ops[j]? ∧ (E'.contains (i + 1 + k) = true → E.contains j = true) := fun k j hj => by
      have := hk (k + 1) j (by simpa using hj)
      simpa [Nat.add_assoc, Nat.add_comm 1 k] using this
    show stepI P ops Q S E j (wpK P ops Q S E K0 is) a w
    refine ⟨o, by simpa using h0.symm, ?_⟩
    rcases h with ⟨v, hy, h⟩ | ⟨he, hw, h⟩
    · exact .inl ⟨v, hy, wpSerK hQ hn l is (i + 1) (by simpa using hl) hk' _ _ hS h⟩
    · exact .inr ⟨h1 (by simpa using he), hw, Oper.wp_mono (fun a' w' hk => ⟨hk.1, wpSerK hQ hn l is (i + 1) (by simpa using hl) hk' a' w' hk.1 hk.2⟩) (wp_Q hQ h)⟩
/-- the operations of these numbers -/
def pickO (l : List Oper) : List Nat → List Oper
  | [] => []
  | j :: js => match l.drop j with
    | o :: _ => o :: pickO l js
    | [] => []
def pickOB (m : Nat) (E E' is : List Nat) : Bool := is.all (fun j => decide (j < m)) && (List.range is.length).all fun k => !E'.contains k || match is[k]? with
  | some j => E.contains j
  | none => true
theorem pickO_spec {l : List Oper} : ∀ (is : List Nat), (∀ j ∈ is, j < l.length) → (pickO l is).length = is.length ∧ ∀ (k j : Nat), is[k]? = some j → (pickO l is)[k]? = l.toArray[j]?
  | [], _ => ⟨rfl, fun k j h => by cases h⟩
  | j :: js, h => by
    obtain ⟨h1, h2⟩ := pickO_spec (l := l) js fun k hk => h k (List.mem_cons_of_mem _ hk)
    have hj := h j (List.mem_cons_self ..)
    have e : l.drop j = l[j] :: l.drop (j + 1) := List.drop_eq_getElem_cons hj
    have e' : pickO l (j :: js) = l[j] :: pickO l js := by rw [pickO, e]
    rw [e']
    refine ⟨by simp [h1], fun k x hk => ?_⟩
    cases k with
    | zero =>
      simp at hk
      subst hk
      simp [hj]
    | succ k => simpa using h2 k x (by simpa using hk)
theorem pick_ok {l : List Oper} {E' is : List Nat} (h : pickOB l.length E E' is = true) : (pickO l is).length = is.length ∧ ∀ (k j : Nat), is[k]? = some j → (pickO l is)[k]? = l.toArray[j]? ∧ (E'.contains (0 + k) = true → E.contains j = true) := by
  simp only [pickOB, Bool.and_eq_true, List.all_eq_true, decide_eq_true_eq, List.mem_range, Bool.or_eq_true, Bool.not_eq_true'] at h
  obtain ⟨h1, h2⟩ := pickO_spec is h.1
  refine ⟨h1, fun k j hk => ⟨h2 k j hk, fun he => ?_⟩⟩
  have := h.2 k (List.getElem?_eq_some_iff.1 hk).1
  rw [hk] at this
  rw [Nat.zero_add] at he
  rw [he] at this
  simpa using this
end
section
variable {P : Program} {n : Nat} {M : Me} {Q : Post} {t : Fr} {L : List Ck}
/-- E: the loud ones; E1, E2: their places in (p1, c) and in p2 -/
theorem cx_draw3 {id : Nat} {l : List Oper} (p1 : List Nat) (c : Nat) (p2 E E1 E2 : List Nat) (L0 : List Ck) (hm' : P.follows .mixedOrders = true) (hser : serialP l.toArray E p1 c p2 = true) (hE1 : pickOB l.length E E1 (p1 ++ [c]) = true) (hE2 : pickOB l.length E E2 p2 = true) (hg : Gives L L0)
    (h : LX P n M l.toArray (.any E1 L0) 0 (pickO l (p1 ++ [c])) (thenQ (fun t L => ∃ L1, Gives L L1 ∧ Gives L1 L0 ∧ LX P n M l.toArray (.any E2 L1) 0 (pickO l p2) Q t L) Q) t L) : CX P n M (.region id l.toArray true) Q t L := fun a w hf hm => by
  have hx := serialP_spec hser
  obtain ⟨a1, a2⟩ := pick_ok hE1
  obtain ⟨b1, b2⟩ := pick_ok hE2
  refine wp_region_held (S := Mem M L0) hm' (anyP2 hx (QQ.noDeath Q) l.toArray.size p1 _ hx.len hx.pairs ?_ (by simp) ?_ a w.drew (hg M _ hm.drew) ?_)
  · intro j
    rw [hx.mem]
    simp only [Array.getD_eq_getD_getElem?, Array.getElem?_replicate, List.size_toArray]
    split
    · simp; omega
    · simp; omega
  · intro k hk
    simp only [Array.getD_eq_getD_getElem?, Array.getElem?_replicate] at hk
    split at hk <;> simp at hk
  · refine wpSerK (QQ.noDeath _) ?_ _ _ 0 a1 a2 a w.drew (hg M _ hm.drew) (h hg a _ hf hm.drew)
    rintro a' w' hS ⟨t', L', hf', hm1, L1, g1, g2, h2⟩
    exact ⟨Mem M L1, fun w hw => g2 M w hw, g1 M w' hm1, wpSer_perm _ _ 0 b1 b2 a' w' (g1 M w' hm1) (h2 g1 a' w' hf' hm1)⟩
end
end Go.Proofs.Ytmochicneilhhaa
