/- A region that draws its order, of which one loud operation (d) may come ahead of, between, or behind some others (c1, c2, ..), which stand in a chain. -/
import Derived.Test.YtmochicneilhhaaGreatPSf
namespace Go.Proofs.YtmochicneilhhaaGreat
open Go.RowKit
section
variable {P : Program} {ops : Array Oper} {Q Q' : Exit → Act → World → Prop} {S S1 : World → Prop} {E : List Nat} {K0 : Act → World → Prop}
/-- a step of the chain: c, what is gone through up to it, and the order in which d comes ahead of it -/
structure Sg where
  c : Nat
  q : List Nat
  s : List Nat
def ords : List Sg → List Nat → List (List Nat)
  | [], r => [r]
  | g :: gs, r => g.s :: (ords gs r).map (g.q ++ ·)
def wpFl (P : Program) (ops : Array Oper) (Q : Exit → Act → World → Prop) (S : World → Prop) (E : List Nat) : List Sg → List Nat → Act → World → Prop
  | [], r, a, w => wpIdx P ops Q S E r a w
  | g :: gs, r, a, w => wpK P ops Q S E (wpFl P ops Q S E gs r) g.q a w ∧ wpIdx P ops Q S E g.s a w
def Sg.out (i : Nat) (g : Sg) : Sg := ⟨g.c, g.q.filter (· != i), g.s.filter (· != i)⟩
theorem ords_out (i : Nat) : ∀ (gs : List Sg) (r : List Nat), ords (gs.map (Sg.out i)) (r.filter (· != i)) = (ords gs r).map (·.filter (· != i))
  | [], _ => rfl
  | g :: gs, r => by
    rw [List.map_cons, ords, ords, ords_out i gs r, List.map_cons, List.map_map, List.map_map]
    congr 1
    refine List.map_congr_left fun o _ => ?_
    show _ ++ _ = List.filter _ (_ ++ _)
    rw [List.filter_append]
    rfl
structure OkY (ops : Array Oper) (E : List Nat) (d j i : Nat) : Prop where
  ne : j ≠ i
  ap : ∀ oi oj, ops[i]? = some oi → ops[j]? = some oj → j ∈ onOf ops i ∨ oj.apart ops oi = true
  chain : E.contains i = true → E.contains j = true → (i = d ∨ j = d) ∨ j ∈ downs ops i (onOf ops i)
def okYB (ops : Array Oper) (E : List Nat) (d j i : Nat) : Bool :=
  (!Nat.beq j i && ((onOf ops i).contains j || match ops[j]?, ops[i]? with
      | some oj, some oi => oj.apart ops oi
      | _, _ => true)) && (!(E.contains i && E.contains j) || (Nat.beq i d || Nat.beq j d) || (downs ops i (onOf ops i)).contains j)
theorem okYB_spec {d j i : Nat} (h : okYB ops E d j i = true) : OkY ops E d j i := by
  simp only [okYB, Bool.and_eq_true, Bool.or_eq_true, Bool.not_eq_true'] at h
  obtain ⟨⟨h1, h2⟩, h3⟩ := h
  refine ⟨fun he => by subst he; simp at h1, fun oi oj hi hj => ?_, fun hi hj => ?_⟩
  · rw [hi, hj] at h2
    simpa using h2
  · rw [hi, hj] at h3
    rcases h3 with (h3 | h3) | h3
    · cases h3
    · exact .inl (h3.imp Nat.eq_of_beq_eq_true Nat.eq_of_beq_eq_true)
    · exact .inr (by simpa using h3)
/-- an order, without one number -/
theorem filter_split {i : Nat} {l1 l2 : List Nat} (h : ∀ j ∈ l1 ++ l2, j ≠ i) : (l1 ++ i :: l2).filter (· != i) = l1 ++ l2 := by
  rw [List.filter_append, List.filter_cons_of_neg (by simp), List.filter_eq_self.2, List.filter_eq_self.2]
  · intro a ha; simpa using h a (List.mem_append_right _ ha)
  · intro a ha; simpa using h a (List.mem_append_left _ ha)
structure OrdOk (ops : Array Oper) (E : List Nat) (d : Nat) (listed : Array Bool) (fuel : Nat) (o : List Nat) : Prop where
  pairs : o.Pairwise (OkY ops E d)
  mem : ∀ j, j ∈ o ↔ listed.getD j true = false
  len : o.length = fuel
theorem OrdOk.split {d fuel i : Nat} {listed : Array Bool} {o : List Nat} {oi : Oper} (h : OrdOk ops E d listed fuel o) (hsz : listed.size = ops.size) (hcl : ∀ k, listed.getD k false = true → ∀ e ∈ onOf ops k, listed.getD e false = true)
    (hun : listed.getD i true = false) (hoi : ops[i]? = some oi) (hon : ∀ e ∈ onOf ops i, listed.getD e false = true) :
    ∃ l1 l2, o = l1 ++ i :: l2 ∧ o.filter (· != i) = l1 ++ l2 ∧ (∀ j ∈ l1, ∃ oj, ops[j]? = some oj ∧ oj.apart ops oi = true ∧ (E.contains i = true → E.contains j = true → i = d ∨ j = d)) ∧ OrdOk ops E d (listed.setIfInBounds i true) (fuel - 1) (o.filter (· != i)) := by
  have hin := mem_inb hsz hun
  obtain ⟨l1, l2, rfl⟩ := List.append_of_mem ((h.mem i).2 hun)
  have hno : ∀ j ∈ l1, ¬ listed.getD j false = true := fun j hj => by
    have hjl : j ∈ l1 ++ i :: l2 := List.mem_append_left _ hj
    exact (unlisted_iff hsz (mem_inb hsz ((h.mem j).1 hjl))).1 ((h.mem j).1 hjl)
  have hpi : ∀ j ∈ l1, OkY ops E d j i := fun j hj => (List.pairwise_append.1 h.pairs).2.2 j hj i (List.mem_cons_self ..)
  have hnd : ∀ j ∈ l1 ++ l2, j ≠ i := by
    intro j hj
    rcases List.mem_append.1 hj with h' | h'
    · exact (hpi j h').ne
    · exact ((List.pairwise_cons.1 (List.pairwise_append.1 h.pairs).2.1).1 j h').ne.symm
  have hf := filter_split hnd
  refine ⟨l1, l2, rfl, hf, fun j hj => ?_, ?_⟩
  · have hjn := mem_inb hsz ((h.mem j).1 (List.mem_append_left _ hj))
    refine ⟨ops[j], by simp [hjn], ?_, ?_⟩
    · rcases (hpi j hj).ap oi ops[j] hoi (by simp [hjn]) with h' | h'
      · exact absurd (hon j h') (hno j hj)
      · exact h'
    · intro hei hej
      rcases (hpi j hj).chain hei hej with h' | h'
      · exact h'
      · exact absurd (downs_all (p := fun e => listed.getD e false = true) (fun k hk e he => hcl k hk e he) i _ hon j h') (hno j hj)
  · rw [hf]
    refine ⟨h.pairs.sublist (by simp), fun j => ?_, by have := h.len; simp at this ⊢; omega⟩
    rw [setD hsz hin]
    have := h.mem j
    by_cases hji : j = i
    · subst hji
      simp only [if_true, Bool.true_eq_false, iff_false]
      intro h'
      exact hnd _ h' rfl
    · simp only [hji, if_false, ← this, List.mem_append, List.mem_cons, false_or]
theorem closed_set {i : Nat} {listed : Array Bool} (hcl : ∀ k, listed.getD k false = true → ∀ e ∈ onOf ops k, listed.getD e false = true) (hon : ∀ e ∈ onOf ops i, listed.getD e false = true) :
    ∀ k, (listed.setIfInBounds i true).getD k false = true → ∀ e ∈ onOf ops k, (listed.setIfInBounds i true).getD e false = true := fun k hk' e he => by
  by_cases hki : k = i
  · subst hki; exact getD_set_true (hon e he)
  · rw [getD_set_ne false (Ne.symm hki)] at hk'
    exact getD_set_true (hcl k hk' e he)
/-- a quiet one goes to the front of all orders -/
theorem pullFl {d fuel i : Nat} {listed : Array Bool} {oi : Oper} (hsel : ∀ (j : Nat) (o : Oper) cs b, ops[j]? = some o → o.op ≠ .select cs b) (hQ : NoDeath Q) (hsz : listed.size = ops.size) (hcl : ∀ k, listed.getD k false = true → ∀ e ∈ onOf ops k, listed.getD e false = true)
    (hun : listed.getD i true = false) (hoi : ops[i]? = some oi) (hon : ∀ e ∈ onOf ops i, listed.getD e false = true) (hei : ¬ E.contains i = true) :
    ∀ (gs : List Sg) (r l : List Nat), i ∉ l → (∀ o ∈ ords gs r, OrdOk ops E d listed fuel (l ++ o)) → ∀ a w, S w → wpFl P ops Q S E gs r a w → stepI P ops Q S E i (wpFl P ops Q S E (gs.map (Sg.out i)) (r.filter (· != i))) a w
  | [], r, l, hil, ho, a, w, hS, h => by
    obtain ⟨l1, l2, e1, e2, e3, _⟩ := (ho r (List.mem_singleton.2 rfl)).split hsz hcl hun hoi hon
    have hir : i ∈ r := by
      have : i ∈ l ++ r := ((ho r (List.mem_singleton.2 rfl)).mem i).2 hun
      exact (List.mem_append.1 this).resolve_left hil
    obtain ⟨r1, r2, rfl⟩ := List.append_of_mem hir
    have hp := (ho _ (List.mem_singleton.2 rfl)).pairs
    have hnd : ∀ j ∈ r1 ++ r2, j ≠ i := by
      intro j hj
      have hp2 := (List.pairwise_append.1 hp).2.1
      rcases List.mem_append.1 hj with h' | h'
      · exact ((List.pairwise_append.1 hp2).2.2 j h' i (List.mem_cons_self ..)).ne
      · exact ((List.pairwise_cons.1 (List.pairwise_append.1 hp2).2.1).1 j h').ne.symm
    have hl1 : l1 = l ++ r1 := by
      have e4 : (l ++ (r1 ++ i :: r2)).filter (· != i) = l ++ (r1 ++ r2) := by
        rw [List.filter_append, filter_split hnd, List.filter_eq_self.2]
        intro a ha; simpa using fun e : a = i => hil (e ▸ ha)
      have n1 : i ∉ l1 := fun hm => by
        have := (List.pairwise_append.1 (e1 ▸ hp)).2.2 i hm i (List.mem_cons_self ..)
        exact this.ne rfl
      have n2 : i ∉ l ++ r1 := fun hm => by
        rcases List.mem_append.1 hm with h' | h'
        · exact hil h'
        · exact hnd i (List.mem_append_left _ h') rfl
      have e5 : l1 ++ i :: l2 = (l ++ r1) ++ i :: r2 := by rw [← e1, List.append_assoc]
      have k1 : (l1 ++ i :: l2).takeWhile (· != i) = l1 := by
        rw [List.takeWhile_append_of_pos (fun x hx => by simpa using fun e : x = i => n1 (e ▸ hx)), List.takeWhile_cons_of_neg (by simp), List.append_nil]
      have k2 : ((l ++ r1) ++ i :: r2).takeWhile (· != i) = l ++ r1 := by
        rw [List.takeWhile_append_of_pos (fun x hx => by simpa using fun e : x = i => n2 (e ▸ hx)), List.takeWhile_cons_of_neg (by simp), List.append_nil]
      rw [← k1, ← k2, e5]
    show stepI P ops Q S E i (wpIdx P ops Q S E ((r1 ++ i :: r2).filter (· != i))) a w
    rw [filter_split hnd]
    exact wpIdx_front hoi hsel hQ r2 r1 (fun j hj => by
      obtain ⟨oj, q1, q2, _⟩ := e3 j (by rw [hl1]; exact List.mem_append_right _ hj)
      exact ⟨oj, q1, q2, fun hh => hei hh.1⟩) a w hS h
  | g :: gs, r, l, hil, ho, a, w, hS, h => by
    have front : ∀ (x : List Nat), OrdOk ops E d listed fuel (l ++ x) → ∃ x1 x2, x = x1 ++ i :: x2 ∧ x.filter (· != i) = x1 ++ x2 ∧ ∀ j ∈ x1, ∃ oj, ops[j]? = some oj ∧ oj.apart ops oi = true ∧ ¬ (E.contains i = true ∧ E.contains j = true) := by
      intro x hx
      have hp := hx.pairs
      have hix : i ∈ x := (List.mem_append.1 ((hx.mem i).2 hun)).resolve_left hil
      obtain ⟨x1, x2, rfl⟩ := List.append_of_mem hix
      have hp2 := (List.pairwise_append.1 hp).2.1
      have hpi : ∀ j ∈ x1, OkY ops E d j i := fun j hj => (List.pairwise_append.1 hp2).2.2 j hj i (List.mem_cons_self ..)
      have hnd : ∀ j ∈ x1 ++ x2, j ≠ i := by
        intro j hj
        rcases List.mem_append.1 hj with h' | h'
        · exact (hpi j h').ne
        · exact ((List.pairwise_cons.1 (List.pairwise_append.1 hp2).2.1).1 j h').ne.symm
      refine ⟨x1, x2, rfl, filter_split hnd, fun j hj => ?_⟩
      have hjl := (hx.mem j).1 (List.mem_append_right _ (List.mem_append_left _ hj))
      have hjn := mem_inb hsz hjl
      refine ⟨ops[j], by simp [hjn], ?_, fun hh => hei hh.1⟩
      rcases (hpi j hj).ap oi ops[j] hoi (by simp [hjn]) with h' | h'
      · exact absurd (hon j h') ((unlisted_iff hsz hjn).1 hjl)
      · exact h'
    obtain ⟨s1, s2, hs, hsf, hsa⟩ := front g.s (ho g.s (List.mem_cons_self ..))
    have hq : ∀ o ∈ ords gs r, OrdOk ops E d listed fuel ((l ++ g.q) ++ o) := fun o hm => by
      have := ho (g.q ++ o) (List.mem_cons_of_mem _ (List.mem_map.2 ⟨o, hm, rfl⟩))
      rwa [← List.append_assoc] at this
    obtain ⟨o0, ho0⟩ : ∃ o, o ∈ ords gs r := by cases gs <;> exact ⟨_, List.mem_cons_self ..⟩
    have hS2 : stepI P ops Q S E i (wpIdx P ops Q S E (g.s.filter (· != i))) a w := by
      rw [hsf]
      have := h.2
      rw [hs] at this
      exact wpIdx_front hoi hsel hQ s2 s1 hsa a w hS this
    by_cases hiq : i ∈ g.q
    · obtain ⟨x1, x2, hx, hxf, hxa⟩ := front (g.q ++ o0) (by have := hq o0 ho0; rwa [List.append_assoc] at this)
      obtain ⟨q1, q2, hqq⟩ := List.append_of_mem hiq
      have hp := (hq o0 ho0).pairs
      rw [List.append_assoc] at hp
      have hp2 := (List.pairwise_append.1 (List.pairwise_append.1 hp).2.1).1
      rw [hqq] at hp2
      have hpi : ∀ j ∈ q1, OkY ops E d j i := fun j hj => (List.pairwise_append.1 hp2).2.2 j hj i (List.mem_cons_self ..)
      have hnd : ∀ j ∈ q1 ++ q2, j ≠ i := by
        intro j hj
        rcases List.mem_append.1 hj with h' | h'
        · exact (hpi j h').ne
        · exact ((List.pairwise_cons.1 (List.pairwise_append.1 hp2).2.1).1 j h').ne.symm
      have hqa : ∀ j ∈ q1, ∃ oj, ops[j]? = some oj ∧ oj.apart ops oi = true ∧ ¬ (E.contains i = true ∧ E.contains j = true) := fun j hj => by
        have hjl := ((hq o0 ho0).mem j).1 (List.mem_append_left _ (List.mem_append_right _ (by rw [hqq]; exact List.mem_append_left _ hj)))
        have hjn := mem_inb hsz hjl
        refine ⟨ops[j], by simp [hjn], ?_, fun hh => hei hh.1⟩
        rcases (hpi j hj).ap oi ops[j] hoi (by simp [hjn]) with h' | h'
        · exact absurd (hon j h') ((unlisted_iff hsz hjn).1 hjl)
        · exact h'
      have hnr : ∀ o ∈ ords gs r, i ∉ o := fun o hm hio => by
        have hp := (hq o hm).pairs
        exact ((List.pairwise_append.1 hp).2.2 i (List.mem_append_right _ hiq) i hio).ne rfl
      have hsame : gs.map (Sg.out i) = gs ∧ r.filter (· != i) = r := by
        clear ho hq h hS2 ho0 hx
        have key : ∀ (gs : List Sg) (r : List Nat), (∀ o ∈ ords gs r, i ∉ o) → gs.map (Sg.out i) = gs ∧ r.filter (· != i) = r := by
          intro gs
          induction gs with
          | nil =>
            intro r hn
            refine ⟨rfl, List.filter_eq_self.2 fun a ha => ?_⟩
            simpa using fun e : a = i => hn r (List.mem_singleton.2 rfl) (e ▸ ha)
          | cons g gs ih =>
            intro r hn
            obtain ⟨o1, ho1⟩ : ∃ o, o ∈ ords gs r := by cases gs <;> exact ⟨_, List.mem_cons_self ..⟩
            obtain ⟨h1, h2⟩ := ih r fun o hm hio => hn (g.q ++ o) (List.mem_cons_of_mem _ (List.mem_map.2 ⟨o, hm, rfl⟩)) (List.mem_append_right _ hio)
            have hg : Sg.out i g = g := by
              obtain ⟨c, q, s⟩ := g
              have e1 : q.filter (· != i) = q := List.filter_eq_self.2 fun a ha => by
                simpa using fun e : a = i => hn (q ++ o1) (List.mem_cons_of_mem _ (List.mem_map.2 ⟨o1, ho1, rfl⟩)) (List.mem_append_left _ (e ▸ ha))
              have e2 : s.filter (· != i) = s := List.filter_eq_self.2 fun a ha => by
                simpa using fun e : a = i => hn s (List.mem_cons_self ..) (e ▸ ha)
              show Sg.mk c (q.filter (· != i)) (s.filter (· != i)) = _
              rw [e1, e2]
            exact ⟨by rw [List.map_cons, hg, h1], h2⟩
        exact key gs r hnr
      have h1 : stepI P ops Q S E i (wpK P ops Q S E (wpFl P ops Q S E gs r) (g.q.filter (· != i))) a w := by
        rw [hqq, filter_split hnd]
        have := h.1
        rw [hqq] at this
        exact wpK_front hoi hsel hQ q2 q1 hqa a w hS this
      rw [← hsame.1, ← hsame.2] at h1
      exact stepI_both hS hei h1 hS2
    · have hqf : g.q.filter (· != i) = g.q := List.filter_eq_self.2 fun a ha => by simpa using fun e : a = i => hiq (e ▸ ha)
      have h1 : wpK P ops Q S E (wpK P ops Q S E (wpFl P ops Q S E (gs.map (Sg.out i)) (r.filter (· != i))) [i]) g.q a w :=
        wpK_mono (fun a' w' hs hk => pullFl hsel hQ hsz hcl hun hoi hon hei gs r (l ++ g.q) (fun hm => (List.mem_append.1 hm).elim hil hiq) hq a' w' hs hk) g.q a w hS h.1
      have hp := (hq o0 ho0).pairs
      have hio : i ∈ o0 := (List.mem_append.1 (((hq o0 ho0).mem i).2 hun)).resolve_left fun hm => (List.mem_append.1 hm).elim hil hiq
      have hqa : ∀ j ∈ g.q, ∃ oj, ops[j]? = some oj ∧ oj.apart ops oi = true ∧ ¬ (E.contains i = true ∧ E.contains j = true) := fun j hj => by
        have hjl := ((hq o0 ho0).mem j).1 (List.mem_append_left _ (List.mem_append_right _ hj))
        have hjn := mem_inb hsz hjl
        have hji : OkY ops E d j i := (List.pairwise_append.1 hp).2.2 j (List.mem_append_right _ hj) i hio
        refine ⟨ops[j], by simp [hjn], ?_, fun hh => hei hh.1⟩
        rcases hji.ap oi ops[j] hoi (by simp [hjn]) with h' | h'
        · exact absurd (hon j h') ((unlisted_iff hsz hjn).1 hjl)
        · exact h'
      have h2 := wpK_front hoi hsel hQ [] g.q hqa a w hS (wpK_app g.q a w h1)
      rw [List.append_nil] at h2
      have h3 : stepI P ops Q S E i (wpK P ops Q S E (wpFl P ops Q S E (gs.map (Sg.out i)) (r.filter (· != i))) (g.q.filter (· != i))) a w := by rw [hqf]; exact h2
      exact stepI_both hS hei h3 hS2
theorem ords_last : ∀ (gs : List Sg) (r : List Nat), ∃ pre, (pre ++ r) ∈ ords gs r
  | [], r => ⟨[], List.mem_singleton.2 rfl⟩
  | g :: gs, r => by
    obtain ⟨pre, h⟩ := ords_last gs r
    exact ⟨g.q ++ pre, List.mem_cons_of_mem _ (List.mem_map.2 ⟨_, h, by rw [List.append_assoc]⟩)⟩
/-- d itself is drawn: from here on there is one order -/
theorem takeFl (hsel : ∀ (j : Nat) (o : Oper) cs b, ops[j]? = some o → o.op ≠ .select cs b) (hback : ∀ i, i < ops.size → ∀ j ∈ onOf ops i, j < i) (hQ : NoDeath Q) {d fuel : Nat} {l r : List Nat} {listed : Array Bool} {oi : Oper}
    (ho : OrdOk ops E d listed (fuel + 1) (l ++ r)) (hq : ∀ j ∈ l, ¬ E.contains j = true) (hr : d ∈ r) (hfirst : r.Pairwise fun j i => E.contains j = true → i ≠ d) (hsz : listed.size = ops.size) (hcl : ∀ k, listed.getD k false = true → ∀ e ∈ onOf ops k, listed.getD e false = true)
    (hun : listed.getD d true = false) (hoi : ops[d]? = some oi) (hon : ∀ e ∈ onOf ops d, listed.getD e false = true) (a : Act) (w : World) (hS : S w) (h : wpK P ops Q S E (wpIdx P ops Q S E r) l a w) :
    wpOp P ops Q d (fun a' w' => S w' ∧ wpAnyH P .any ops Q S fuel (listed.setIfInBounds d true) a' w') a w := by
  obtain ⟨r1, r2, rfl⟩ := List.append_of_mem hr
  have hin := mem_inb hsz hun
  have hp := ho.pairs
  have e : l ++ (r1 ++ d :: r2) = (l ++ r1) ++ d :: r2 := by simp
  rw [e] at hp
  have hq1 : ∀ j ∈ l ++ r1, ¬ E.contains j = true := fun j hj hej => by
    rcases List.mem_append.1 hj with h' | h'
    · exact hq j h' hej
    · exact (List.pairwise_append.1 hfirst).2.2 j h' d (List.mem_cons_self ..) hej rfl
  have hpi : ∀ j ∈ l ++ r1, OkY ops E d j d := fun j hj => (List.pairwise_append.1 hp).2.2 j hj d (List.mem_cons_self ..)
  have hnd : ∀ j ∈ (l ++ r1) ++ r2, j ≠ d := by
    intro j hj
    rcases List.mem_append.1 hj with h' | h'
    · exact (hpi j h').ne
    · exact ((List.pairwise_cons.1 (List.pairwise_append.1 hp).2.1).1 j h').ne.symm
  have hmem : ∀ j, j ∈ (l ++ r1) ++ d :: r2 ↔ listed.getD j true = false := fun j => by rw [← e]; exact ho.mem j
  have hf := wpK_idx l a w h
  rw [e] at hf
  have hf2 := wpIdx_front hoi hsel hQ r2 (l ++ r1) (fun j hj => by
    have hjl := (hmem j).1 (List.mem_append_left _ hj)
    have hjn := mem_inb hsz hjl
    refine ⟨ops[j], by simp [hjn], ?_, fun hh => hq1 j hj hh.2⟩
    rcases (hpi j hj).ap oi ops[j] hoi (by simp [hjn]) with h' | h'
    · exact absurd (hon j h') ((unlisted_iff hsz hjn).1 hjl)
    · exact h') a w hS hf
  refine wpOp_mono (fun a' w' hk => ⟨hk.1, ?_⟩) (stepI_wpOp hS hf2)
  refine anyP hsel hback hQ (S := S) (S1 := S) (fun _ h => h) fuel ((l ++ r1) ++ r2) _ ?_ ?_ ?_ (by simp [hsz]) (closed_set hcl hon) a' w' hk.1 hk.2
  · have := ho.len; simp at this ⊢; omega
  · have hs : ((l ++ r1) ++ r2).Pairwise (OkY ops E d) := hp.sublist (by simp)
    exact hs.imp_of_mem fun hj hi hk => ⟨hk.ne, hk.ap, fun h1 h2 => (hk.chain h1 h2).resolve_left fun h3 => h3.elim (hnd _ hi) (hnd _ hj)⟩
  · intro j
    rw [setD hsz hin]
    by_cases hji : j = d
    · subst hji
      simp only [if_true, Bool.true_eq_false, iff_false]
      intro h'
      exact hnd _ h' rfl
    · simp only [hji, if_false, ← hmem j, List.mem_append, List.mem_cons, false_or]
structure SgOk (ops : Array Oper) (E : List Nat) (d : Nat) (g : Sg) : Prop where
  ec : E.contains g.c = true
  cq : g.c ∈ g.q
  cd : g.c ≠ d
  one : ∀ j ∈ g.q, E.contains j = true → j = g.c
  ds : d ∈ g.s
  first : g.s.Pairwise fun j i => E.contains j = true → i ≠ d
theorem anyFl (hsel : ∀ (j : Nat) (o : Oper) cs b, ops[j]? = some o → o.op ≠ .select cs b) (hback : ∀ i, i < ops.size → ∀ j ∈ onOf ops i, j < i) (hQ : NoDeath Q) {d : Nat} (ed : E.contains d = true) : ∀ (fuel : Nat) (gs : List Sg) (r l : List Nat) (listed : Array Bool),
    (∀ o ∈ ords gs r, OrdOk ops E d listed fuel (l ++ o)) → listed.size = ops.size → (∀ k, listed.getD k false = true → ∀ e ∈ onOf ops k, listed.getD e false = true) → (∀ j ∈ l, ¬ E.contains j = true) → (∀ g ∈ gs, SgOk ops E d g) → d ∈ r → (r.Pairwise fun j i => E.contains j = true → i ≠ d) →
    (∀ i ∈ r, E.contains i = true → i ≠ d → d ∈ downs ops i (onOf ops i)) → ∀ a w, S w → wpK P ops Q S E (wpFl P ops Q S E gs r) l a w → wpAnyH P .any ops Q S fuel listed a w := by
  intro fuel
  induction fuel with
  | zero =>
    intro gs r l listed ho _ _ _ _ hd
    obtain ⟨pre, hp⟩ := ords_last gs r
    have := (ho _ hp).len
    have h2 := List.length_pos_of_mem hd
    rw [List.length_append, List.length_append] at this
    omega
  | succ fuel ih =>
    intro gs r l listed ho hsz hcl hq hgs hd hfirst hwait a w hS h
    obtain ⟨pre, hpre⟩ := ords_last gs r
    have ho0 := ho _ hpre
    have hdn : listed.getD d true = false := (ho0.mem d).1 (List.mem_append_right _ (List.mem_append_right _ hd))
    have unl : ∀ {x : Nat}, listed.getD x true = false → ¬ listed.getD x false = true := fun {x} hx => (unlisted_iff hsz (mem_inb hsz hx)).1 hx
    refine ⟨fun hr => absurd hr (ready_any hback (l := l ++ (pre ++ r)) (fun he => by have := List.length_pos_of_mem hd; have h2 := congrArg List.length he; simp only [List.length_append, List.length_nil] at h2; omega) ho0.mem hsz), fun i hi => ?_⟩
    obtain ⟨hun, oi, hoi, hall⟩ := mem_ready.1 hi
    have hin := mem_inb hsz hun
    have hon : ∀ e ∈ onOf ops i, listed.getD e false = true := fun e he => by
      obtain ⟨x, hx, hb, rfl⟩ := (mem_onOf hoi).1 he
      exact hall x hx hb
    have back : ∀ {x : Nat}, x ∈ downs ops i (onOf ops i) → listed.getD x false = true := fun {x} hx => downs_all (p := fun e => listed.getD e false = true) (fun k hk e he => hcl k hk e he) i _ hon x hx
    have hsz' : (listed.setIfInBounds i true).size = ops.size := by simp [hsz]
    have hcl' := closed_set hcl hon
    by_cases hil : i ∈ l
    · obtain ⟨l1, l2, rfl⟩ := List.append_of_mem hil
      have hp := ho0.pairs
      rw [List.append_assoc] at hp
      have hpi : ∀ j ∈ l1, OkY ops E d j i := fun j hj => (List.pairwise_append.1 hp).2.2 j hj i (List.mem_cons_self ..)
      have hfo : ∀ o ∈ ords gs r, ((l1 ++ i :: l2) ++ o).filter (· != i) = (l1 ++ l2) ++ o := fun o hm => by
        have hp := (ho o hm).pairs
        have e : (l1 ++ i :: l2) ++ o = l1 ++ i :: (l2 ++ o) := by simp
        rw [e] at hp ⊢
        rw [filter_split, List.append_assoc]
        intro j hj
        rcases List.mem_append.1 hj with h' | h'
        · exact ((List.pairwise_append.1 hp).2.2 j h' i (List.mem_cons_self ..)).ne
        · exact ((List.pairwise_cons.1 (List.pairwise_append.1 hp).2.1).1 j h').ne.symm
      refine wpOp_mono (fun a' w' hk => ⟨hk.1, ?_⟩) (stepI_wpOp hS (wpK_front hoi hsel hQ l2 l1 (fun j hj => by
        have hjl := (ho0.mem j).1 (List.mem_append_left _ (List.mem_append_left _ hj))
        have hjn := mem_inb hsz hjl
        refine ⟨ops[j], by simp [hjn], ?_, fun hh => hq j (List.mem_append_left _ hj) hh.2⟩
        rcases (hpi j hj).ap oi ops[j] hoi (by simp [hjn]) with h' | h'
        · exact absurd (hon j h') (unl hjl)
        · exact h') a w hS h))
      refine ih gs r (l1 ++ l2) _ (fun o hm => ?_) hsz' hcl' (fun j hj => hq j (by
        rcases List.mem_append.1 hj with h' | h'
        · exact List.mem_append_left _ h'
        · exact List.mem_append_right _ (List.mem_cons_of_mem _ h'))) hgs hd hfirst hwait a' w' hk.1 hk.2
      obtain ⟨_, _, _, _, _, h4⟩ := (ho o hm).split hsz hcl hun hoi hon
      rw [hfo o hm] at h4
      exact h4
    · have hfl : l.filter (· != i) = l := List.filter_eq_self.2 fun a ha => by simpa using fun e : a = i => hil (e ▸ ha)
      by_cases hei : E.contains i = true
      · cases gs with
        | nil =>
          by_cases hid : i = d
          · subst hid
            exact takeFl hsel hback hQ (ho r (List.mem_singleton.2 rfl)) hq hd hfirst hsz hcl hun hoi hon a w hS h
          · have hir : i ∈ r := (List.mem_append.1 (((ho r (List.mem_singleton.2 rfl)).mem i).2 hun)).resolve_left hil
            exact absurd (back (hwait i hir hei hid)) (unl hdn)
        | cons g gs =>
          have hg := hgs g (List.mem_cons_self ..)
          by_cases hid : i = d
          · subst hid
            exact takeFl hsel hback hQ (ho g.s (List.mem_cons_self ..)) hq hg.ds hg.first hsz hcl hun hoi hon a w hS (wpK_mono (fun _ _ _ h => h.2) l a w hS h)
          · have hq2 : ∀ o ∈ ords gs r, OrdOk ops E d listed (fuel + 1) ((l ++ g.q) ++ o) := fun o hm => by
              have := ho (g.q ++ o) (List.mem_cons_of_mem _ (List.mem_map.2 ⟨o, hm, rfl⟩))
              rwa [← List.append_assoc] at this
            obtain ⟨pre2, hpre2⟩ := ords_last gs r
            have ho2 := hq2 _ hpre2
            by_cases hic : i = g.c
            · have hiq : i ∈ g.q := hic ▸ hg.cq
              obtain ⟨q1, q2, hqq⟩ := List.append_of_mem hiq
              have hp := ho2.pairs
              have e : (l ++ g.q) ++ (pre2 ++ r) = (l ++ q1) ++ i :: (q2 ++ (pre2 ++ r)) := by rw [hqq]; simp
              rw [e] at hp
              have hpi : ∀ j ∈ l ++ q1, OkY ops E d j i := fun j hj => (List.pairwise_append.1 hp).2.2 j hj i (List.mem_cons_self ..)
              have hqu : ∀ j ∈ l ++ q1, ¬ E.contains j = true := fun j hj hej => by
                rcases List.mem_append.1 hj with h' | h'
                · exact hq j h' hej
                · exact (hpi j hj).ne ((hg.one j (by rw [hqq]; exact List.mem_append_left _ h') hej).trans hic.symm)
              have hqu2 : ∀ j ∈ q2, ¬ E.contains j = true := fun j hj hej => by
                have e1 := (hg.one j (by rw [hqq]; exact List.mem_append_right _ (List.mem_cons_of_mem _ hj)) hej).trans hic.symm
                exact ((List.pairwise_cons.1 (List.pairwise_append.1 hp).2.1).1 j (List.mem_append_left _ hj)).ne e1.symm
              have hl : wpK P ops Q S E (wpFl P ops Q S E gs r) (l ++ g.q) a w := wpK_app l a w (wpK_mono (fun _ _ _ h => h.1) l a w hS h)
              have e2 : l ++ g.q = (l ++ q1) ++ i :: q2 := by rw [hqq]; simp
              rw [e2] at hl
              refine wpOp_mono (fun a' w' hk => ⟨hk.1, ?_⟩) (stepI_wpOp hS (wpK_front hoi hsel hQ q2 (l ++ q1) (fun j hj => by
                have hjl := (ho2.mem j).1 (by rw [e]; exact List.mem_append_left _ hj)
                have hjn := mem_inb hsz hjl
                refine ⟨ops[j], by simp [hjn], ?_, fun hh => hqu j hj hh.2⟩
                rcases (hpi j hj).ap oi ops[j] hoi (by simp [hjn]) with h' | h'
                · exact absurd (hon j h') (unl hjl)
                · exact h') a w hS hl))
              refine ih gs r ((l ++ q1) ++ q2) _ (fun o hm => ?_) hsz' hcl' (fun j hj => (List.mem_append.1 hj).elim (hqu j) (hqu2 j)) (fun g' hg' => hgs g' (List.mem_cons_of_mem _ hg')) hd hfirst hwait a' w' hk.1 hk.2
              obtain ⟨_, _, _, _, _, h4⟩ := (hq2 o hm).split hsz hcl hun hoi hon
              have hp3 := (hq2 o hm).pairs
              have e3 : (l ++ g.q) ++ o = (l ++ q1) ++ i :: (q2 ++ o) := by rw [hqq]; simp
              rw [e3] at hp3
              have e4 : ((l ++ g.q) ++ o).filter (· != i) = ((l ++ q1) ++ q2) ++ o := by
                rw [e3, filter_split, List.append_assoc (l ++ q1)]
                intro j hj
                rcases List.mem_append.1 hj with h' | h'
                · exact ((List.pairwise_append.1 hp3).2.2 j h' i (List.mem_cons_self ..)).ne
                · exact ((List.pairwise_cons.1 (List.pairwise_append.1 hp3).2.1).1 j h').ne.symm
              rw [e4] at h4
              exact h4
            · have hio : i ∈ pre2 ++ r := by
                rcases List.mem_append.1 ((ho2.mem i).2 hun) with h' | h'
                · rcases List.mem_append.1 h' with h' | h'
                  · exact absurd h' hil
                  · exact absurd (hg.one i h' hei) hic
                · exact h'
              have hci : OkY ops E d g.c i := (List.pairwise_append.1 ho2.pairs).2.2 g.c (List.mem_append_right _ hg.cq) i hio
              have hcd := (hci.chain hei hg.ec).resolve_left fun h3 => h3.elim hid hg.cd
              exact absurd (back hcd) (unl ((ho2.mem g.c).1 (List.mem_append_left _ (List.mem_append_right _ hg.cq))))
      · have h1 : wpK P ops Q S E (wpK P ops Q S E (wpFl P ops Q S E (gs.map (Sg.out i)) (r.filter (· != i))) [i]) l a w :=
          wpK_mono (fun a' w' hs hk => pullFl hsel hQ hsz hcl hun hoi hon hei gs r l hil ho a' w' hs hk) l a w hS h
        have hio : i ∈ pre ++ r := (List.mem_append.1 ((ho0.mem i).2 hun)).resolve_left hil
        have h2 := wpK_front hoi hsel hQ [] l (fun j hj => by
          have hjl := (ho0.mem j).1 (List.mem_append_left _ hj)
          have hjn := mem_inb hsz hjl
          have hji : OkY ops E d j i := (List.pairwise_append.1 ho0.pairs).2.2 j hj i hio
          refine ⟨ops[j], by simp [hjn], ?_, fun hh => hei hh.1⟩
          rcases hji.ap oi ops[j] hoi (by simp [hjn]) with h' | h'
          · exact absurd (hon j h') (unl hjl)
          · exact h') a w hS (wpK_app l a w h1)
        rw [List.append_nil] at h2
        have hid : d ≠ i := fun e => hei (e ▸ ed)
        refine wpOp_mono (fun a' w' hk => ⟨hk.1, ?_⟩) (stepI_wpOp hS h2)
        refine ih (gs.map (Sg.out i)) (r.filter (· != i)) l _ (fun o hm => ?_) hsz' hcl' hq (fun g' hg' => ?_) (List.mem_filter.2 ⟨hd, by simpa using hid⟩) (hfirst.filter _) (fun x hx => hwait x (List.mem_filter.1 hx).1) a' w' hk.1 hk.2
        · rw [ords_out] at hm
          obtain ⟨o1, hm1, rfl⟩ := List.mem_map.1 hm
          obtain ⟨_, _, _, _, _, h4⟩ := (ho o1 hm1).split hsz hcl hun hoi hon
          rw [List.filter_append, hfl] at h4
          exact h4
        · obtain ⟨g, hg1, rfl⟩ := List.mem_map.1 hg'
          have hg := hgs g hg1
          have hic : g.c ≠ i := fun e => hei (e ▸ hg.ec)
          exact ⟨hg.ec, List.mem_filter.2 ⟨hg.cq, by show (g.c != i) = true; simpa using hic⟩, hg.cd, fun j hj => hg.one j (List.mem_filter.1 hj).1, List.mem_filter.2 ⟨hg.ds, by simpa using hid⟩, hg.first.filter _⟩
def firstB (E : List Nat) (d : Nat) : List Nat → Bool := pairsB fun j i => !E.contains j || !Nat.beq i d
theorem firstB_spec {d : Nat} {l : List Nat} (h : firstB E d l = true) : l.Pairwise fun j i => E.contains j = true → i ≠ d :=
  (pairsB_spec h).imp fun hk he hi => by
    subst hi
    simp only [Bool.or_eq_true, Bool.not_eq_true'] at hk
    rcases hk with hk | hk
    · rw [he] at hk; cases hk
    · simp at hk
def serialG (ops : Array Oper) (E p0 : List Nat) (d : Nat) (gs : List Sg) (r : List Nat) : Bool :=
  Region.noSelect ops &&
  (List.range ops.size).all (fun i => (onOf ops i).all (fun j => decide (j < i))) &&
  (ords gs r).all (fun o => pairsB (okYB ops E d) (p0 ++ o) && (List.range ops.size).all (fun i => (p0 ++ o).contains i) && (p0 ++ o).all (fun i => decide (i < ops.size)) && decide ((p0 ++ o).length = ops.size)) &&
  E.contains d && p0.all (fun j => !E.contains j) && gs.all (fun g => E.contains g.c && g.q.contains g.c && !Nat.beq g.c d && g.q.all (fun j => !E.contains j || Nat.beq j g.c) && g.s.contains d && firstB E d g.s) &&
  r.contains d && firstB E d r && r.all (fun i => !E.contains i || Nat.beq i d || (downs ops i (onOf ops i)).contains d)
structure SerG (ops : Array Oper) (E p0 : List Nat) (d : Nat) (gs : List Sg) (r : List Nat) : Prop where
  sel : ∀ (j : Nat) (o : Oper) cs b, ops[j]? = some o → o.op ≠ .select cs b
  back : ∀ i, i < ops.size → ∀ j ∈ onOf ops i, j < i
  ord : ∀ o ∈ ords gs r, (p0 ++ o).Pairwise (OkY ops E d) ∧ (∀ i, i ∈ p0 ++ o ↔ i < ops.size) ∧ (p0 ++ o).length = ops.size
  ed : E.contains d = true
  quiet : ∀ j ∈ p0, ¬ E.contains j = true
  sg : ∀ g ∈ gs, SgOk ops E d g
  dr : d ∈ r
  first : r.Pairwise fun j i => E.contains j = true → i ≠ d
  wait : ∀ i ∈ r, E.contains i = true → i ≠ d → d ∈ downs ops i (onOf ops i)
theorem serialG_spec {p0 r : List Nat} {d : Nat} {gs : List Sg} (h : serialG ops E p0 d gs r = true) : SerG ops E p0 d gs r := by
  simp only [serialG, Bool.and_eq_true] at h
  obtain ⟨⟨⟨⟨⟨⟨⟨⟨hsel, hback⟩, hord⟩, hed⟩, hq⟩, hsg⟩, hdr⟩, hfirst⟩, hw⟩ := h
  refine ⟨fun j o cs b ho => Region.noSelect_spec hsel j o cs b ho, fun i hi j hj => ?_, fun o ho => ?_, hed, fun j hj he => ?_, fun g hg => ?_, List.contains_iff_mem.1 hdr, firstB_spec hfirst, fun i hi he hid => ?_⟩
  · have := List.all_eq_true.1 (List.all_eq_true.1 hback i (List.mem_range.2 hi)) j hj
    simpa using this
  · have := List.all_eq_true.1 hord o ho
    simp only [Bool.and_eq_true, decide_eq_true_eq] at this
    obtain ⟨⟨⟨h1, h2⟩, h3⟩, h4⟩ := this
    refine ⟨(pairsB_spec h1).imp okYB_spec, fun i => ⟨fun hi => by simpa using List.all_eq_true.1 h3 i hi, fun hi => List.contains_iff_mem.1 (List.all_eq_true.1 h2 i (List.mem_range.2 hi))⟩, h4⟩
  · have := List.all_eq_true.1 hq j hj
    rw [he] at this
    cases this
  · have := List.all_eq_true.1 hsg g hg
    simp only [Bool.and_eq_true, List.all_eq_true, Bool.or_eq_true, Bool.not_eq_true'] at this
    obtain ⟨⟨⟨⟨⟨h1, h2⟩, h3⟩, h4⟩, h5⟩, h6⟩ := this
    refine ⟨h1, List.contains_iff_mem.1 h2, fun e => by rw [e] at h3; simp at h3, fun j hj he => ?_, List.contains_iff_mem.1 h5, firstB_spec h6⟩
    rcases h4 j hj with h' | h'
    · rw [he] at h'; cases h'
    · exact Nat.eq_of_beq_eq_true h'
  · have := List.all_eq_true.1 hw i hi
    simp only [Bool.or_eq_true, Bool.not_eq_true'] at this
    rcases this with (h' | h') | h'
    · rw [he] at h'; cases h'
    · exact absurd (Nat.eq_of_beq_eq_true h') hid
    · exact List.contains_iff_mem.1 h'
end
section
variable {P : Program} {n : Nat} {M : Me} {Q : Post} {t : Fr} {L : List Ck}
/-- a step of the chain, and where the loud ones stand in its two lists -/
structure Sgx where
  c : Nat
  q : List Nat
  Eq : List Nat
  s : List Nat
  Es : List Nat
def Sgx.sg (g : Sgx) : Sg := ⟨g.c, g.q, g.s⟩
def FX (P : Program) (n : Nat) (M : Me) (l : List Oper) (L0 : List Ck) (Q : Post) (r Er : List Nat) : List Sgx → Fr → List Ck → Prop
  | [], t, L => LX P n M l.toArray (.any Er L0) 0 (pickO l r) Q t L
  | g :: gs, t, L => LX P n M l.toArray (.any g.Eq L0) 0 (pickO l g.q) (thenQ (fun t L => Gives L L0 ∧ FX P n M l L0 Q r Er gs t L) Q) t L ∧ LX P n M l.toArray (.any g.Es L0) 0 (pickO l g.s) Q t L
def sgxB (m : Nat) (E : List Nat) (gs : List Sgx) : Bool := gs.all fun g => pickOB m E g.Eq g.q && pickOB m E g.Es g.s
theorem wpFl_of {l : List Oper} {E r Er : List Nat} {L0 : List Ck} (hEr : pickOB l.length E Er r = true) : ∀ (gs : List Sgx), sgxB l.length E gs = true → ∀ {t : Fr} {L : List Ck} (_ : Gives L L0), FX P n M l L0 Q r Er gs t L → ∀ a w, Frm n t a → Mem M L w → Mem M L0 w → wpFl P l.toArray (QQ n M Q) (Mem M L0) E (gs.map Sgx.sg) r a w
  | [], _, t, L, hg, h, a, w, hf, hm, hS => by
    obtain ⟨b1, b2⟩ := pick_ok hEr
    exact wpSer_perm _ _ 0 b1 b2 a w hS (h hg a w hf hm)
  | g :: gs, hB, t, L, hg, h, a, w, hf, hm, hS => by
    simp only [sgxB, List.all_cons, Bool.and_eq_true] at hB
    obtain ⟨⟨h1, h2⟩, h3⟩ := hB
    obtain ⟨a1, a2⟩ := pick_ok h1
    obtain ⟨b1, b2⟩ := pick_ok h2
    refine ⟨?_, wpSer_perm _ _ 0 b1 b2 a w hS (h.2 hg a w hf hm)⟩
    refine wpSerK (QQ.noDeath _) ?_ _ _ 0 a1 a2 a w hS (h.1 hg a w hf hm)
    rintro a' w' hS' ⟨t', L', hf', hm', g0, hx⟩
    exact wpFl_of hEr gs h3 g0 hx a' w' hf' hm' hS'
/-- E: the loud ones; p0: quiet ones ahead of all (gone through once); d: the one that floats; gs: the chain that it floats over; r, Er: what is left behind the chain -/
theorem cx_float {id : Nat} {l : List Oper} (E p0 : List Nat) (d : Nat) (gs : List Sgx) (r Er : List Nat) (L0 : List Ck) (hm' : P.follows .mixedOrders = true) (hser : serialG l.toArray E p0 d (gs.map Sgx.sg) r = true) (hE0 : pickOB l.length E [] p0 = true) (hEr : pickOB l.length E Er r = true) (hEs : sgxB l.length E gs = true) (hg : Gives L L0)
    (h : LX P n M l.toArray (.any [] L0) 0 (pickO l p0) (thenQ (fun t L => Gives L L0 ∧ FX P n M l L0 Q r Er gs t L) Q) t L) : CX P n M (.region id l.toArray true) Q t L := fun a w hf hm => by
  have hx := serialG_spec hser
  obtain ⟨a1, a2⟩ := pick_ok hE0
  have hun : ∀ j : Nat, j < l.toArray.size ↔ (Array.replicate l.toArray.size false).getD j true = false := fun j => by
    simp only [Array.getD_eq_getD_getElem?, Array.getElem?_replicate, List.size_toArray]
    split
    · simp; omega
    · simp; omega
  refine wp_region_held (S := Mem M L0) hm' (anyFl hx.sel hx.back (QQ.noDeath Q) hx.ed l.toArray.size (gs.map Sgx.sg) r p0 _ (fun o ho => ⟨(hx.ord o ho).1, fun j => ((hx.ord o ho).2.1 j).trans (hun j), (hx.ord o ho).2.2⟩) (by simp) ?_ hx.quiet hx.sg hx.dr hx.first hx.wait a w.drew (hg M _ hm.drew) ?_)
  · intro k hk
    simp only [Array.getD_eq_getD_getElem?, Array.getElem?_replicate] at hk
    split at hk <;> simp at hk
  · refine wpSerK (QQ.noDeath _) ?_ _ _ 0 a1 a2 a w.drew (hg M _ hm.drew) (h hg a _ hf hm.drew)
    rintro a' w' hS ⟨t', L', hf', hm1, g0, h1⟩
    exact wpFl_of hEr gs hEs g0 h1 a' w' hf' hm1 hS
end
end Go.Proofs.YtmochicneilhhaaGreat
