/-
  The search for a way (chapter 20), where each way is worth 1: as a list of places that grows. The map of ways as a list of places; a way is offered.
-/
import Derived.Test.YtkhllknahjmciaaGreatM23
/-! The search for a way (chapter 20), where each way is worth 1: as a list of places that grows. -/
namespace Go.Proofs.YtkhllknahjmciaaGreat
open Go.RowKit
set_option linter.unusedVariables false
set_option linter.unusedSimpArgs false

/-- A place (node and state), the place that one came from, and the step (token 0: none). -/
structure Et where
  id : Int
  st : Int
  fid : Int
  fst : Int
  tok : Int
  back : Bool
def hither (back : Bool) (g : Eg) : Int := if back = true then g.to else g.fr
def thither (back : Bool) (g : Eg) : Int := if back = true then g.fr else g.to
def seek (a b : Int) (L : List Et) : Option Et := L.find? fun e => decide (e.id = a ∧ e.st = b)
def tryE (b : Bool) (L : List Et) (n : Et) : List Et := if b = true ∧ seek n.id n.st L = none then L ++ [n] else L
def edgeE (wt : Int → Bool) (m : Mv) (id : Int) (e : Eg) (L : List Et) : List Et :=
  if e.lab = m.l ∧ hither m.back e = id then tryE (wt e.tok) L ⟨thither m.back e, m.t, id, m.f, e.tok, m.back⟩ else L
def edgesE (wt : Int → Bool) (m : Mv) (id : Int) : List Eg → List Et → List Et
  | [], L => L
  | e :: es, L => edgesE wt m id es (edgeE wt m id e L)
def moveE (wt : Int → Bool) (es : List Eg) (m : Mv) (id : Int) (L : List Et) : List Et :=
  if seek id m.f L = none then L
  else if m.eps = true then tryE true L ⟨id, m.t, id, m.f, 0, false⟩
  else edgesE wt m id es L
def nodesE (wt : Int → Bool) (es : List Eg) (m : Mv) : List Nd → List Et → List Et
  | [], L => L
  | t :: ts, L => nodesE wt es m ts (moveE wt es m t.id L)
def movesE (wt : Int → Bool) (es : List Eg) (ns : List Nd) : List Mv → List Et → List Et
  | [], L => L
  | m :: ms, L => movesE wt es ns ms (nodesE wt es m ns L)
def runE (wt : Int → Bool) (es : List Eg) (ns : List Nd) (ms : List Mv) : Nat → List Et → List Et
  | 0, L => L
  | k + 1, L => if L.length < (movesE wt es ns ms L).length then runE wt es ns ms k (movesE wt es ns ms L) else L
def stepsE (L : List Et) (b1 b2 : Int) : Nat → Int → Int → List (Int × Bool)
  | 0, _, _ => []
  | k + 1, a, s => if a = b1 ∧ s = b2 then [] else match seek a s L with
    | none => []
    | some e => (if 0 < e.tok then [(e.tok, e.back)] else []) ++ stepsE L b1 b2 k e.fid e.fst
theorem edgesE_drop {wt : Int → Bool} {m : Mv} {id : Int} {es : List Eg} {i : Nat} {e : Eg} (h : es[i]? = some e) (L : List Et) : edgesE wt m id (es.drop i) L = edgesE wt m id (es.drop (i + 1)) (edgeE wt m id e L) := by
  obtain ⟨hi, rfl⟩ := List.getElem?_eq_some_iff.1 h
  rw [List.drop_eq_getElem_cons hi, edgesE]
theorem nodesE_drop {wt : Int → Bool} {es : List Eg} {m : Mv} {ns : List Nd} {i : Nat} {t : Nd} (h : ns[i]? = some t) (L : List Et) : nodesE wt es m (ns.drop i) L = nodesE wt es m (ns.drop (i + 1)) (moveE wt es m t.id L) := by
  obtain ⟨hi, rfl⟩ := List.getElem?_eq_some_iff.1 h
  rw [List.drop_eq_getElem_cons hi, nodesE]
theorem movesE_drop {wt : Int → Bool} {es : List Eg} {ns : List Nd} {ms : List Mv} {i : Nat} {m : Mv} (h : ms[i]? = some m) (L : List Et) : movesE wt es ns (ms.drop i) L = movesE wt es ns (ms.drop (i + 1)) (nodesE wt es m ns L) := by
  obtain ⟨hi, rfl⟩ := List.getElem?_eq_some_iff.1 h
  rw [List.drop_eq_getElem_cons hi, movesE]
/-! ### It only grows -/
theorem tryE_pre (b : Bool) (L : List Et) (n : Et) : L <+: tryE b L n := by
  unfold tryE
  split
  · exact List.prefix_append _ _
  · exact List.prefix_refl _
theorem edgeE_pre (wt : Int → Bool) (m : Mv) (id : Int) (e : Eg) (L : List Et) : L <+: edgeE wt m id e L := by
  unfold edgeE
  split
  · exact tryE_pre _ _ _
  · exact List.prefix_refl _
theorem edgesE_pre (wt : Int → Bool) (m : Mv) (id : Int) : ∀ (es : List Eg) (L : List Et), L <+: edgesE wt m id es L
  | [], L => List.prefix_refl _
  | e :: es, L => (edgeE_pre wt m id e L).trans (edgesE_pre wt m id es _)
theorem moveE_pre (wt : Int → Bool) (es : List Eg) (m : Mv) (id : Int) (L : List Et) : L <+: moveE wt es m id L := by
  unfold moveE
  split
  · exact List.prefix_refl _
  · split
    · exact tryE_pre _ _ _
    · exact edgesE_pre _ _ _ _ _
theorem nodesE_pre (wt : Int → Bool) (es : List Eg) (m : Mv) : ∀ (ns : List Nd) (L : List Et), L <+: nodesE wt es m ns L
  | [], L => List.prefix_refl _
  | t :: ts, L => (moveE_pre wt es m t.id L).trans (nodesE_pre wt es m ts _)
theorem movesE_pre (wt : Int → Bool) (es : List Eg) (ns : List Nd) : ∀ (ms : List Mv) (L : List Et), L <+: movesE wt es ns ms L
  | [], L => List.prefix_refl _
  | m :: ms, L => (nodesE_pre wt es m ns L).trans (movesE_pre wt es ns ms _)
theorem runE_pre (wt : Int → Bool) (es : List Eg) (ns : List Nd) (ms : List Mv) : ∀ (k : Nat) (L : List Et), L <+: runE wt es ns ms k L
  | 0, L => List.prefix_refl _
  | k + 1, L => by
    rw [runE]
    split
    · exact (movesE_pre wt es ns ms L).trans (runE_pre wt es ns ms k _)
    · exact List.prefix_refl _
theorem pre_eq {α : Type} {a b : List α} (h : a <+: b) (hl : b.length ≤ a.length) : b = a := by
  obtain ⟨c, rfl⟩ := h
  rw [List.length_append] at hl
  have : c = [] := List.length_eq_zero_iff.1 (by omega)
  rw [this, List.append_nil]
theorem pre_len {α : Type} {a b : List α} (h : a <+: b) : a.length ≤ b.length := h.length_le
theorem seek_app {a b : Int} {L M : List Et} (h : seek a b L ≠ none) : seek a b (L ++ M) = seek a b L := by
  unfold seek at h ⊢
  rw [List.find?_append]
  cases hq : L.find? fun e => decide (e.id = a ∧ e.st = b) with
  | none => exact absurd hq h
  | some e => rfl
theorem seek_pre {a b : Int} {L M : List Et} (h : L <+: M) (hs : seek a b L ≠ none) : seek a b M = seek a b L := by
  obtain ⟨c, rfl⟩ := h
  exact seek_app hs
theorem seek_is {a b : Int} {L : List Et} {e : Et} (h : seek a b L = some e) : e ∈ L ∧ e.id = a ∧ e.st = b := by
  unfold seek at h
  have h1 := List.mem_of_find?_eq_some h
  have h2 := List.find?_some h
  simp at h2
  exact ⟨h1, h2.1, h2.2⟩
theorem seek_mem {e : Et} {L : List Et} (h : e ∈ L) : seek e.id e.st L ≠ none := by
  unfold seek
  intro hn
  have := List.find?_eq_none.1 hn e h
  simp at this
theorem seek_none {a b : Int} {L : List Et} (h : seek a b L = none) {e : Et} (he : e ∈ L) : ¬ (e.id = a ∧ e.st = b) := by
  rintro ⟨rfl, rfl⟩
  exact seek_mem he h
/-! ### How each place was come to -/
/-- An edge leads from u to v, along a letter. -/
def Ed (wt : Int → Bool) (es : List Eg) (l : ByteArray) (back : Bool) (u v : Int) : Prop :=
  ∃ g ∈ es, g.lab = l ∧ wt g.tok = true ∧ hither back g = u ∧ thither back g = v
def Via (wt : Int → Bool) (es : List Eg) (ms : List Mv) (e : Et) : Prop :=
  ∃ m ∈ ms, e.st = m.t ∧ e.fst = m.f ∧ ((m.eps = true ∧ e.id = e.fid ∧ e.tok = 0 ∧ e.back = false) ∨ (m.eps = false ∧ e.back = m.back ∧ ∃ g ∈ es, g.lab = m.l ∧ wt g.tok = true ∧ e.tok = g.tok ∧ hither m.back g = e.fid ∧ thither m.back g = e.id))
inductive Built (wt : Int → Bool) (es : List Eg) (ms : List Mv) (b1 b2 : Int) : List Et → Prop where
  | one : Built wt es ms b1 b2 [⟨b1, b2, b1, b2, 0, false⟩]
  | snoc {L : List Et} {e : Et} : Built wt es ms b1 b2 L → seek e.id e.st L = none → seek e.fid e.fst L ≠ none → Via wt es ms e → Built wt es ms b1 b2 (L ++ [e])
section
variable {wt : Int → Bool} {es : List Eg} {ns : List Nd} {ms : List Mv} {b1 b2 : Int}
theorem Built.try {L : List Et} (h : Built wt es ms b1 b2 L) (b : Bool) (n : Et) (hf : seek n.fid n.fst L ≠ none) (hv : b = true → Via wt es ms n) : Built wt es ms b1 b2 (tryE b L n) := by
  unfold tryE
  split
  · next hc => exact .snoc h hc.2 hf (hv hc.1)
  · exact h
theorem Built.edges {m : Mv} (hm : m ∈ ms) (he : m.eps = false) (id : Int) : ∀ (gs : List Eg) (L : List Et), (∀ g ∈ gs, g ∈ es) → Built wt es ms b1 b2 L → seek id m.f L ≠ none → Built wt es ms b1 b2 (edgesE wt m id gs L)
  | [], L, _, h, _ => h
  | g :: gs, L, hg, h, hs => by
    rw [edgesE]
    refine Built.edges hm he id gs _ (fun x hx => hg x (List.mem_cons_of_mem _ hx)) ?_ (by rw [seek_pre (edgeE_pre ..) hs]; exact hs)
    unfold edgeE
    split
    · next hc => exact h.try _ _ hs fun hb => ⟨m, hm, rfl, rfl, .inr ⟨he, rfl, g, hg g (List.mem_cons_self ..), hc.1, hb, rfl, hc.2, rfl⟩⟩
    · exact h
theorem Built.move {m : Mv} (hm : m ∈ ms) (id : Int) {L : List Et} (h : Built wt es ms b1 b2 L) : Built wt es ms b1 b2 (moveE wt es m id L) := by
  unfold moveE
  split
  · exact h
  · next hs =>
    split
    · next he => exact h.try _ _ hs fun _ => ⟨m, hm, rfl, rfl, .inl ⟨he, rfl, rfl, rfl⟩⟩
    · next he => exact Built.edges hm (by simpa using he) id es L (fun _ h => h) h hs
theorem Built.nodes {m : Mv} (hm : m ∈ ms) : ∀ (ns : List Nd) {L : List Et}, Built wt es ms b1 b2 L → Built wt es ms b1 b2 (nodesE wt es m ns L)
  | [], L, h => h
  | t :: ts, L, h => Built.nodes hm ts (h.move hm t.id)
theorem Built.moves (ns : List Nd) : ∀ (ks : List Mv) {L : List Et}, (∀ m ∈ ks, m ∈ ms) → Built wt es ms b1 b2 L → Built wt es ms b1 b2 (movesE wt es ns ks L)
  | [], L, _, h => h
  | m :: ks, L, hk, h => Built.moves ns ks (fun x hx => hk x (List.mem_cons_of_mem _ hx)) (h.nodes (hk m (List.mem_cons_self ..)) ns)
theorem Built.run (ns : List Nd) : ∀ (k : Nat) {L : List Et}, Built wt es ms b1 b2 L → Built wt es ms b1 b2 (runE wt es ns ms k L)
  | 0, L, h => h
  | k + 1, L, h => by
    rw [runE]
    split
    · exact Built.run ns k (h.moves ns ms (fun _ h => h))
    · exact h
/-! ### There is an end -/
theorem len_le {α : Type} [DecidableEq α] : ∀ (l m : List α), l.Nodup → (∀ x ∈ l, x ∈ m) → l.length ≤ m.length
  | [], m, _, _ => Nat.zero_le _
  | a :: l, m, hn, hs => by
    obtain ⟨h1, h2⟩ := List.nodup_cons.1 hn
    have ha := hs a (List.mem_cons_self ..)
    have := len_le l (m.erase a) h2 fun x hx => (List.mem_erase_of_ne (fun e => h1 (by rw [← e]; exact hx))).2 (hs x (List.mem_cons_of_mem _ hx))
    rw [List.length_erase_of_mem ha] at this
    have := List.length_pos_of_mem ha
    rw [List.length_cons]
    omega
def spots (ns : List Nd) (N : Nat) : List (Int × Int) := (ns.map fun t => (List.range N).map fun (s : Nat) => (t.id, (s : Int))).flatten
theorem spots_len (ns : List Nd) (N : Nat) : (spots ns N).length = ns.length * N := by
  unfold spots
  induction ns with
  | nil => simp
  | cons t ts ih => rw [List.map_cons, List.flatten_cons, List.length_append, ih, List.length_map, List.length_range, List.length_cons, Nat.add_mul]; omega
theorem spots_mem {ns : List Nd} {N : Nat} {t : Nd} (ht : t ∈ ns) {s : Int} (h0 : 0 ≤ s) (h1 : s < N) : (t.id, s) ∈ spots ns N := by
  unfold spots
  rw [List.mem_flatten]
  refine ⟨_, List.mem_map.2 ⟨t, ht, rfl⟩, List.mem_map.2 ⟨s.toNat, List.mem_range.2 (by omega), ?_⟩⟩
  rw [Int.toNat_of_nonneg h0]
/-- Edges between nodes; the machine's states. -/
structure Fit (es : List Eg) (ns : List Nd) (ms : List Mv) (b1 b2 : Int) (N : Nat) : Prop where
  ends : ∀ e ∈ es, (∃ t ∈ ns, t.id = e.fr) ∧ ∃ t ∈ ns, t.id = e.to
  begin : ∃ t ∈ ns, t.id = b1
  start : 0 ≤ b2 ∧ b2 < N
  states : ∀ m ∈ ms, 0 ≤ m.t ∧ m.t < N
theorem Built.spot {N : Nat} (hf : Fit es ns ms b1 b2 N) {L : List Et} (h : Built wt es ms b1 b2 L) : ∀ e ∈ L, (∃ t ∈ ns, t.id = e.id) ∧ 0 ≤ e.st ∧ e.st < N := by
  induction h with
  | one =>
    intro e he
    rw [List.mem_singleton] at he
    subst he
    exact ⟨hf.begin, hf.start⟩
  | @snoc L n h h1 h2 h3 ih =>
    intro e he
    rcases List.mem_append.1 he with he | he
    · exact ih e he
    · rw [List.mem_singleton] at he
      subst he
      obtain ⟨m, hm, k1, k2, k3⟩ := h3
      rw [k1]
      refine ⟨?_, hf.states m hm⟩
      rcases k3 with ⟨-, k3, -, -⟩ | ⟨-, -, g, hg, -, -, -, -, k4⟩
      · rw [k3]
        cases hs : seek e.fid e.fst L with
        | none => exact absurd hs h2
        | some x =>
          obtain ⟨x1, x2, x3⟩ := seek_is hs
          have := (ih x x1).1
          rwa [x2] at this
      · rw [← k4]
        unfold thither
        split
        · exact (hf.ends g hg).1
        · exact (hf.ends g hg).2
theorem Built.nodup {L : List Et} (h : Built wt es ms b1 b2 L) : (L.map fun e => (e.id, e.st)).Nodup := by
  induction h with
  | one => simp
  | @snoc L n h h1 h2 h3 ih =>
    rw [List.map_append, List.nodup_append]
    refine ⟨ih, by simp, ?_⟩
    intro a ha b hb
    obtain ⟨x, hx, rfl⟩ := List.mem_map.1 ha
    simp only [List.map_cons, List.map_nil, List.mem_singleton] at hb
    subst hb
    intro hc
    have := seek_none h1 hx
    simp only [Prod.mk.injEq] at hc
    exact this hc
theorem Built.bound {N : Nat} (hf : Fit es ns ms b1 b2 N) {L : List Et} (h : Built wt es ms b1 b2 L) : L.length ≤ ns.length * N := by
  have h1 := len_le (L.map fun e => (e.id, e.st)) (spots ns N) h.nodup fun x hx => by
    obtain ⟨e, he, rfl⟩ := List.mem_map.1 hx
    obtain ⟨⟨t, ht, k1⟩, k2, k3⟩ := h.spot hf e he
    rw [← k1]
    exact spots_mem ht k2 k3
  rw [List.length_map, spots_len] at h1
  exact h1
theorem run_end {N : Nat} (hf : Fit es ns ms b1 b2 N) : ∀ (k : Nat) (L : List Et), Built wt es ms b1 b2 L → ns.length * N < k + L.length → movesE wt es ns ms (runE wt es ns ms k L) = runE wt es ns ms k L
  | 0, L, h, hk => by have := h.bound hf; omega
  | k + 1, L, h, hk => by
    rw [runE]
    split
    · next hl => exact run_end hf k _ (h.moves ns ms (fun _ h => h)) (by omega)
    · next hl => exact pre_eq (movesE_pre ..) (by omega)
/-! ### What is found is what is there -/
theorem Built.sound {L : List Et} (h : Built wt es ms b1 b2 L) : ∀ e ∈ L, Rt (Sp (Ed wt es) ms) (b1, b2) (e.id, e.st) := by
  induction h with
  | one =>
    intro e he
    rw [List.mem_singleton] at he
    subst he
    exact .refl _
  | @snoc L n h h1 h2 h3 ih =>
    intro e he
    rcases List.mem_append.1 he with he | he
    · exact ih e he
    · rw [List.mem_singleton] at he
      subst he
      cases hs : seek e.fid e.fst L with
      | none => exact absurd hs h2
      | some x =>
        obtain ⟨x1, x2, x3⟩ := seek_is hs
        have h0 := ih x x1
        rw [x2, x3] at h0
        refine h0.trans (.one ?_)
        obtain ⟨m, hm, k1, k2, k3⟩ := h3
        refine ⟨m, hm, k2, k1, ?_⟩
        rcases k3 with ⟨a, b, -⟩ | ⟨a, b, g, c1, c2, c3, c4, c5, c6⟩
        · exact .inl ⟨a, b.symm⟩
        · exact .inr ⟨a, g, c1, c2, c3, c5, c6⟩
theorem nodes_same {m : Mv} : ∀ (ns : List Nd) (L : List Et), nodesE wt es m ns L = L → ∀ t ∈ ns, moveE wt es m t.id L = L
  | [], L, _, t, ht => by simp at ht
  | u :: ts, L, h, t, ht => by
    rw [nodesE] at h
    have h1 : moveE wt es m u.id L = L := pre_eq (moveE_pre ..) (by have := pre_len (nodesE_pre wt es m ts (moveE wt es m u.id L)); rw [h] at this; exact this)
    rcases List.mem_cons.1 ht with rfl | ht
    · exact h1
    · rw [h1] at h
      exact nodes_same ts L h t ht
theorem moves_same : ∀ (ks : List Mv) (L : List Et), movesE wt es ns ks L = L → ∀ m ∈ ks, ∀ t ∈ ns, moveE wt es m t.id L = L
  | [], L, _, m, hm => by simp at hm
  | u :: ks, L, h, m, hm => by
    rw [movesE] at h
    have h1 : nodesE wt es u ns L = L := pre_eq (nodesE_pre ..) (by have := pre_len (movesE_pre wt es ns ks (nodesE wt es u ns L)); rw [h] at this; exact this)
    rcases List.mem_cons.1 hm with rfl | hm
    · exact nodes_same ns L h1
    · rw [h1] at h
      exact moves_same ks L h m hm
theorem try_same {L : List Et} {n : Et} (h : tryE true L n = L) : seek n.id n.st L ≠ none := by
  intro hn
  rw [tryE, if_pos ⟨rfl, hn⟩] at h
  have := congrArg List.length h
  simp at this
theorem edges_same {m : Mv} {id : Int} : ∀ (gs : List Eg) (L : List Et), edgesE wt m id gs L = L → ∀ g ∈ gs, edgeE wt m id g L = L
  | [], L, _, g, hg => by simp at hg
  | u :: gs, L, h, g, hg => by
    rw [edgesE] at h
    have h1 : edgeE wt m id u L = L := pre_eq (edgeE_pre ..) (by have := pre_len (edgesE_pre wt m id gs (edgeE wt m id u L)); rw [h] at this; exact this)
    rcases List.mem_cons.1 hg with rfl | hg
    · exact h1
    · rw [h1] at h
      exact edges_same gs L h g hg
theorem closed_step {N : Nat} (hf : Fit es ns ms b1 b2 N) {L : List Et} (h : Built wt es ms b1 b2 L) (hc : movesE wt es ns ms L = L) (x y : Int × Int) (hs : Sp (Ed wt es) ms x y) (hx : seek x.1 x.2 L ≠ none) : seek y.1 y.2 L ≠ none := by
  obtain ⟨m, hm, k1, k2, k3⟩ := hs
  cases hq : seek x.1 x.2 L with
  | none => exact absurd hq hx
  | some e =>
    obtain ⟨e1, e2, e3⟩ := seek_is hq
    obtain ⟨⟨t, ht, e4⟩, -⟩ := h.spot hf e e1
    have hmv := moves_same ms L hc m hm t ht
    rw [e4, e2] at hmv
    unfold moveE at hmv
    rw [k1] at hx
    rw [if_neg hx] at hmv
    rw [k2]
    rcases k3 with ⟨a, b⟩ | ⟨a, g, c1, c2, c3, c4, c5⟩
    · rw [if_pos a] at hmv
      have := try_same hmv
      simp only at this
      rwa [b] at this
    · rw [if_neg (by simp [a])] at hmv
      have := edges_same es L hmv g c1
      rw [edgeE, if_pos ⟨c2, c4⟩, c3] at this
      have := try_same this
      simp only at this
      rwa [c5] at this
theorem Built.begin {L : List Et} (h : Built wt es ms b1 b2 L) : seek b1 b2 L ≠ none := by
  induction h with
  | one => simp [seek]
  | snoc h h1 h2 h3 ih => rw [seek_app ih]; exact ih
theorem found_iff {N : Nat} (hf : Fit es ns ms b1 b2 N) {L : List Et} (h : Built wt es ms b1 b2 L) (hc : movesE wt es ns ms L = L) (a s : Int) : seek a s L ≠ none ↔ Rt (Sp (Ed wt es) ms) (b1, b2) (a, s) := by
  constructor
  · intro hs
    cases hq : seek a s L with
    | none => exact absurd hq hs
    | some e =>
      obtain ⟨e1, rfl, rfl⟩ := seek_is hq
      exact h.sound e e1
  · intro hr
    have key : ∀ x y : Int × Int, Rt (Sp (Ed wt es) ms) x y → seek x.1 x.2 L ≠ none → seek y.1 y.2 L ≠ none := by
      intro x y hr
      induction hr with
      | refl => exact id
      | head h1 _ ih => exact fun hx => ih (closed_step hf h hc _ _ h1 hx)
    exact key _ _ hr h.begin
/-! ### The way back -/
theorem Built.back {L : List Et} (h : Built wt es ms b1 b2 L) : ∀ (k : Nat) (a s : Int), seek a s (L.take (k + 1)) ≠ none → ¬ (a = b1 ∧ s = b2) → ∃ e, seek a s L = some e ∧ seek e.fid e.fst (L.take k) ≠ none ∧ Via wt es ms e := by
  induction h with
  | one =>
    intro k a s hs hne
    exfalso
    apply hs
    unfold seek
    rw [List.find?_eq_none]
    intro x hx
    have hx := List.mem_of_mem_take hx
    rw [List.mem_singleton] at hx
    subst hx
    simp
    exact fun h1 h2 => hne ⟨h1.symm, h2.symm⟩
  | @snoc L n h h1 h2 h3 ih =>
    intro k a s hs hne
    by_cases hk : k < L.length
    · rw [List.take_append_of_le_length (by omega)] at hs
      obtain ⟨e, q1, q2, q3⟩ := ih k a s hs hne
      refine ⟨e, ?_, ?_, q3⟩
      · rw [seek_app (by rw [q1]; simp)]; exact q1
      · rw [List.take_append_of_le_length (by omega)]; exact q2
    · rw [List.take_of_length_le (by simp; omega)] at hs
      by_cases hq : seek a s L = none
      · have : seek a s (L ++ [n]) = some n := by
          unfold seek at hq hs ⊢
          rw [List.find?_append, hq] at hs ⊢
          simp only [Option.none_or] at hs ⊢
          by_cases hp : n.id = a ∧ n.st = s
          · simp [hp]
          · simp [hp] at hs
        refine ⟨n, this, ?_, h3⟩
        have hp : L <+: (L ++ [n]).take k := List.prefix_take_iff.2 ⟨List.prefix_append _ _, by omega⟩
        rw [seek_pre hp h2]
        exact h2
      · have hm : L.length ≠ 0 := by
          intro h0
          rw [List.length_eq_zero_iff.1 h0] at hq
          exact hq rfl
        obtain ⟨j, hj⟩ : ∃ j, L.length = j + 1 := ⟨L.length - 1, by omega⟩
        obtain ⟨e, q1, q2, q3⟩ := ih j a s (by rw [List.take_of_length_le (by omega)]; exact hq) hne
        refine ⟨e, by rw [seek_app hq]; exact q1, ?_, q3⟩
        have hp : L.take j <+: (L ++ [n]).take k := by
          rw [List.prefix_take_iff]
          exact ⟨(List.take_prefix _ _).trans (List.prefix_append _ _), by rw [List.length_take]; omega⟩
        rw [seek_pre hp q2]
        exact q2
end
end Go.Proofs.YtkhllknahjmciaaGreat

/-! The map of ways as a list of places; a way is offered. -/
namespace Go.Proofs.YtkhllknahjmciaaGreat
open Go.RowKit
set_option linter.unusedVariables false
set_option linter.unusedSimpArgs false

def wayA (s : Int) (i : Bool) (a : Option Addr) (c : Nat) (l : Int) (e : Et) : Value := .agg #[.int .i64 s, .bool i, .slice a 0 c, .int .i64 l, .float .f64 0, .int .i64 e.fid, .int .i64 e.fst, .int .i64 e.tok, .bool e.back]
def WayC (s : Int) (e : Et) (v : Value) : Prop := ∃ i a c l, v = wayA s i a c l e ∧ c ≤ maxLen ∧ Ok0 s i l true
def Rel (s : Int) : List ((Int × Int) × Value) → List Et → Prop
  | [], [] => True
  | x :: l, e :: L => x.1 = (e.id, e.st) ∧ WayC s e x.2 ∧ Rel s l L
  | _, _ => False
theorem Rel.look {s : Int} : ∀ {l : List ((Int × Int) × Value)} {L : List Et}, Rel s l L → ∀ a b : Int, (seek a b L = none → look a b l = none) ∧ ∀ e, seek a b L = some e → ∃ v, look a b l = some v ∧ WayC s e v
  | [], [], _, a, b => ⟨fun _ => rfl, fun e h => by simp [seek] at h⟩
  | [], e :: L, h, _, _ => h.elim
  | x :: l, [], h, _, _ => h.elim
  | x :: l, f :: L, h, a, b => by
    obtain ⟨⟨p, q⟩, v⟩ := x
    obtain ⟨h1, h2, h3⟩ := h
    obtain ⟨rfl, rfl⟩ : p = f.id ∧ q = f.st := by simpa using h1
    have ih := Rel.look h3 a b
    unfold seek Go.Proofs.YtkhllknahjmciaaGreat.look at *
    by_cases hp : f.id = a ∧ f.st = b
    · obtain ⟨rfl, rfl⟩ := hp
      refine ⟨fun h => by simp at h, fun e h => ⟨v, by simp, ?_⟩⟩
      simp at h
      rw [← h]
      exact h2
    · rw [List.find?_cons_of_neg (by simpa using hp), List.find?_cons_of_neg (by simpa using hp)]
      exact ih
theorem Rel.snoc {s : Int} {e : Et} {v : Value} (hv : WayC s e v) : ∀ {l : List ((Int × Int) × Value)} {L : List Et}, Rel s l L → Rel s (l ++ [((e.id, e.st), v)]) (L ++ [e])
  | [], [], _ => ⟨rfl, hv, trivial⟩
  | [], e :: L, h => h.elim
  | x :: l, [], h => h.elim
  | x :: l, f :: L, h => ⟨h.1, h.2.1, Rel.snoc hv h.2.2⟩
/-- Block r is the map of the ways. -/
def Ways (w : World) (r : Nat) (s : Int) (L : List Et) : Prop := ∃ es clock l, w.heap[r]? = some (.map es clock) ∧ ents l es.toList ∧ Rel s l L
theorem Ways.of {w w' : World} {r : Nat} {s : Int} {L : List Et} (h : Ways w r s L) (k : w'.heap[r]? = w.heap[r]?) : Ways w' r s L := by
  obtain ⟨es, clock, l, h1, h2, h3⟩ := h
  exact ⟨es, clock, l, k.trans h1, h2, h3⟩
theorem Ways.lt {w : World} {r : Nat} {s : Int} {L : List Et} (h : Ways w r s L) : r < w.heap.size := by
  obtain ⟨es, clock, l, h1, -⟩ := h
  exact (Array.getElem?_eq_some_iff.1 h1).1
theorem Ways.chg {S : Nat → Prop} {w w' : World} {r : Nat} {s : Int} {L : List Et} (h : Ways w r s L) (k : Chg S w w') (hr : ¬ S r) : Ways w' r s L := h.of (k.block r h.lt hr)
theorem Ways.ext {w w' : World} {r : Nat} {s : Int} {L : List Et} (h : Ways w r s L) (k : Ext w w') : Ways w' r s L := h.chg k (fun h => h)
theorem Ways.miss {w : World} {r : Nat} {s : Int} {L : List Et} (h : Ways w r s L) {a b : Int} (hs : seek a b L = none) (W : World) (k : W.heap[r]? = w.heap[r]?) :
    (Instr.lookup 163 (.map (some r)) (.agg #[.int .i64 a, .int .i64 b]) true).run Tryz.prog W = .ok (.tuple #[zeroWay, .bool false]) W := by
  obtain ⟨es, clock, l, h1, h2, h3⟩ := h
  have := run_wayLook W r clock a b l es h2 (k.trans h1) true
  rw [(h3.look a b).1 hs] at this
  exact this
theorem Ways.hit {w : World} {r : Nat} {s : Int} {L : List Et} (h : Ways w r s L) {a b : Int} {e : Et} (hs : seek a b L = some e) :
    ∃ i ad c l, c ≤ maxLen ∧ Ok0 s i l true ∧ ∀ W, W.heap[r]? = w.heap[r]? → ∀ ok, (Instr.lookup 163 (.map (some r)) (.agg #[.int .i64 a, .int .i64 b]) ok).run Tryz.prog W = .ok (if ok then .tuple #[wayA s i ad c l e, .bool true] else wayA s i ad c l e) W := by
  obtain ⟨es, clock, l, h1, h2, h3⟩ := h
  obtain ⟨v, h4, i, ad, c, l', rfl, h6, h7⟩ := (h3.look a b).2 e hs
  refine ⟨i, ad, c, l', h6, h7, fun W k ok => ?_⟩
  have := run_wayLook W r clock a b l es h2 (k.trans h1) ok
  rw [h4] at this
  exact this
theorem put_chg {w : World} {r : Nat} {o : Obj} : Chg (fun k => k = r) w { w with heap := w.heap.setIfInBounds r o } :=
  ⟨rfl, rfl, rfl, by simp, fun k hk hn => by
    show (w.heap.setIfInBounds r o)[k]? = w.heap[k]?
    rw [Array.getElem?_setIfInBounds_ne (fun h => hn h.symm)]⟩
theorem Ways.put {w : World} {r : Nat} {s : Int} {L : List Et} (h : Ways w r s L) {e : Et} (hs : seek e.id e.st L = none) {i : Bool} {ad : Option Addr} {c : Nat} {l : Int} (hc : c ≤ maxLen) (ho : Ok0 s i l true) (W : World) (k : W.heap[r]? = w.heap[r]?) :
    ∃ W', (Instr.mapUpdate 163 (.map (some r)) (.agg #[.int .i64 e.id, .int .i64 e.st]) (.agg #[.int .i64 s, .bool i, .slice ad 0 c, .int .i64 l, .float .f64 0, .int .i64 e.fid, .int .i64 e.fst, .int .i64 e.tok, .bool e.back])).run Tryz.prog W = .ok () W' ∧ Ways W' r s (L ++ [e]) ∧ Chg (fun k => k = r) W W' := by
  obtain ⟨es, clock, l0, h1, h2, h3⟩ := h
  have hr : r < W.heap.size := (Array.getElem?_eq_some_iff.1 (k.trans h1)).1
  refine ⟨_, run_wayPut W r clock e.id e.st (wayA s i ad c l e) l0 es h2 (k.trans h1) ((h3.look _ _).1 hs), ?_, put_chg⟩
  refine ⟨es.push { key := pK e.id e.st, val := wayA s i ad c l e, born := clock }, clock + 1, l0 ++ [((e.id, e.st), wayA s i ad c l e)], ?_, ?_, h3.snoc ⟨i, ad, c, l, rfl, hc, ho⟩⟩
  · show (W.heap.setIfInBounds r _)[r]? = _
    rw [Array.getElem?_setIfInBounds_self_of_lt hr]
  · unfold ents at h2 ⊢
    rw [Array.toList_push, List.map_append, List.map_append, h2]
    rfl
theorem blk9_put {w : World} {p t : Nat} {a0 a1 a2 a3 a4 a5 a6 a7 a8 : Value} (h : Blk w p #[a0, a1, a2, a3, a4, a5, a6, a7, a8] t) (c0 c1 c2 c3 c4 c5 c6 c7 c8 : Value) :
    (w.cell? ⟨p, 0, none⟩ = some a0 ∧ w.frozen? ⟨p, 0, none⟩ = false) ∧
    ((w.setCell ⟨p, 0, none⟩ c0).cell? ⟨p, 1, none⟩ = some a1 ∧ (w.setCell ⟨p, 0, none⟩ c0).frozen? ⟨p, 1, none⟩ = false) ∧
    (((w.setCell ⟨p, 0, none⟩ c0).setCell ⟨p, 1, none⟩ c1).cell? ⟨p, 2, none⟩ = some a2 ∧ ((w.setCell ⟨p, 0, none⟩ c0).setCell ⟨p, 1, none⟩ c1).frozen? ⟨p, 2, none⟩ = false) ∧
    ((((w.setCell ⟨p, 0, none⟩ c0).setCell ⟨p, 1, none⟩ c1).setCell ⟨p, 2, none⟩ c2).cell? ⟨p, 3, none⟩ = some a3 ∧ (((w.setCell ⟨p, 0, none⟩ c0).setCell ⟨p, 1, none⟩ c1).setCell ⟨p, 2, none⟩ c2).frozen? ⟨p, 3, none⟩ = false) ∧
    (((((w.setCell ⟨p, 0, none⟩ c0).setCell ⟨p, 1, none⟩ c1).setCell ⟨p, 2, none⟩ c2).setCell ⟨p, 3, none⟩ c3).cell? ⟨p, 4, none⟩ = some a4 ∧ ((((w.setCell ⟨p, 0, none⟩ c0).setCell ⟨p, 1, none⟩ c1).setCell ⟨p, 2, none⟩ c2).setCell ⟨p, 3, none⟩ c3).frozen? ⟨p, 4, none⟩ = false) ∧
    ((((((w.setCell ⟨p, 0, none⟩ c0).setCell ⟨p, 1, none⟩ c1).setCell ⟨p, 2, none⟩ c2).setCell ⟨p, 3, none⟩ c3).setCell ⟨p, 4, none⟩ c4).cell? ⟨p, 5, none⟩ = some a5 ∧ (((((w.setCell ⟨p, 0, none⟩ c0).setCell ⟨p, 1, none⟩ c1).setCell ⟨p, 2, none⟩ c2).setCell ⟨p, 3, none⟩ c3).setCell ⟨p, 4, none⟩ c4).frozen? ⟨p, 5, none⟩ = false) ∧
    (((((((w.setCell ⟨p, 0, none⟩ c0).setCell ⟨p, 1, none⟩ c1).setCell ⟨p, 2, none⟩ c2).setCell ⟨p, 3, none⟩ c3).setCell ⟨p, 4, none⟩ c4).setCell ⟨p, 5, none⟩ c5).cell? ⟨p, 6, none⟩ = some a6 ∧ ((((((w.setCell ⟨p, 0, none⟩ c0).setCell ⟨p, 1, none⟩ c1).setCell ⟨p, 2, none⟩ c2).setCell ⟨p, 3, none⟩ c3).setCell ⟨p, 4, none⟩ c4).setCell ⟨p, 5, none⟩ c5).frozen? ⟨p, 6, none⟩ = false) ∧
    ((((((((w.setCell ⟨p, 0, none⟩ c0).setCell ⟨p, 1, none⟩ c1).setCell ⟨p, 2, none⟩ c2).setCell ⟨p, 3, none⟩ c3).setCell ⟨p, 4, none⟩ c4).setCell ⟨p, 5, none⟩ c5).setCell ⟨p, 6, none⟩ c6).cell? ⟨p, 7, none⟩ = some a7 ∧ (((((((w.setCell ⟨p, 0, none⟩ c0).setCell ⟨p, 1, none⟩ c1).setCell ⟨p, 2, none⟩ c2).setCell ⟨p, 3, none⟩ c3).setCell ⟨p, 4, none⟩ c4).setCell ⟨p, 5, none⟩ c5).setCell ⟨p, 6, none⟩ c6).frozen? ⟨p, 7, none⟩ = false) ∧
    (((((((((w.setCell ⟨p, 0, none⟩ c0).setCell ⟨p, 1, none⟩ c1).setCell ⟨p, 2, none⟩ c2).setCell ⟨p, 3, none⟩ c3).setCell ⟨p, 4, none⟩ c4).setCell ⟨p, 5, none⟩ c5).setCell ⟨p, 6, none⟩ c6).setCell ⟨p, 7, none⟩ c7).cell? ⟨p, 8, none⟩ = some a8 ∧ ((((((((w.setCell ⟨p, 0, none⟩ c0).setCell ⟨p, 1, none⟩ c1).setCell ⟨p, 2, none⟩ c2).setCell ⟨p, 3, none⟩ c3).setCell ⟨p, 4, none⟩ c4).setCell ⟨p, 5, none⟩ c5).setCell ⟨p, 6, none⟩ c6).setCell ⟨p, 7, none⟩ c7).frozen? ⟨p, 8, none⟩ = false) ∧
    Blk (((((((((w.setCell ⟨p, 0, none⟩ c0).setCell ⟨p, 1, none⟩ c1).setCell ⟨p, 2, none⟩ c2).setCell ⟨p, 3, none⟩ c3).setCell ⟨p, 4, none⟩ c4).setCell ⟨p, 5, none⟩ c5).setCell ⟨p, 6, none⟩ c6).setCell ⟨p, 7, none⟩ c7).setCell ⟨p, 8, none⟩ c8) p #[c0, c1, c2, c3, c4, c5, c6, c7, c8] t ∧
    Chg (fun k => k = p) w (((((((((w.setCell ⟨p, 0, none⟩ c0).setCell ⟨p, 1, none⟩ c1).setCell ⟨p, 2, none⟩ c2).setCell ⟨p, 3, none⟩ c3).setCell ⟨p, 4, none⟩ c4).setCell ⟨p, 5, none⟩ c5).setCell ⟨p, 6, none⟩ c6).setCell ⟨p, 7, none⟩ c7).setCell ⟨p, 8, none⟩ c8) := by
  have h1 : Blk (w.setCell ⟨p, 0, none⟩ c0) p #[c0, a1, a2, a3, a4, a5, a6, a7, a8] t := h.set 0 c0
  have h2 : Blk ((w.setCell ⟨p, 0, none⟩ c0).setCell ⟨p, 1, none⟩ c1) p #[c0, c1, a2, a3, a4, a5, a6, a7, a8] t := h1.set 1 c1
  have h3 : Blk (((w.setCell ⟨p, 0, none⟩ c0).setCell ⟨p, 1, none⟩ c1).setCell ⟨p, 2, none⟩ c2) p #[c0, c1, c2, a3, a4, a5, a6, a7, a8] t := h2.set 2 c2
  have h4 : Blk ((((w.setCell ⟨p, 0, none⟩ c0).setCell ⟨p, 1, none⟩ c1).setCell ⟨p, 2, none⟩ c2).setCell ⟨p, 3, none⟩ c3) p #[c0, c1, c2, c3, a4, a5, a6, a7, a8] t := h3.set 3 c3
  have h5 : Blk (((((w.setCell ⟨p, 0, none⟩ c0).setCell ⟨p, 1, none⟩ c1).setCell ⟨p, 2, none⟩ c2).setCell ⟨p, 3, none⟩ c3).setCell ⟨p, 4, none⟩ c4) p #[c0, c1, c2, c3, c4, a5, a6, a7, a8] t := h4.set 4 c4
  have h6 : Blk ((((((w.setCell ⟨p, 0, none⟩ c0).setCell ⟨p, 1, none⟩ c1).setCell ⟨p, 2, none⟩ c2).setCell ⟨p, 3, none⟩ c3).setCell ⟨p, 4, none⟩ c4).setCell ⟨p, 5, none⟩ c5) p #[c0, c1, c2, c3, c4, c5, a6, a7, a8] t := h5.set 5 c5
  have h7 : Blk (((((((w.setCell ⟨p, 0, none⟩ c0).setCell ⟨p, 1, none⟩ c1).setCell ⟨p, 2, none⟩ c2).setCell ⟨p, 3, none⟩ c3).setCell ⟨p, 4, none⟩ c4).setCell ⟨p, 5, none⟩ c5).setCell ⟨p, 6, none⟩ c6) p #[c0, c1, c2, c3, c4, c5, c6, a7, a8] t := h6.set 6 c6
  have h8 : Blk ((((((((w.setCell ⟨p, 0, none⟩ c0).setCell ⟨p, 1, none⟩ c1).setCell ⟨p, 2, none⟩ c2).setCell ⟨p, 3, none⟩ c3).setCell ⟨p, 4, none⟩ c4).setCell ⟨p, 5, none⟩ c5).setCell ⟨p, 6, none⟩ c6).setCell ⟨p, 7, none⟩ c7) p #[c0, c1, c2, c3, c4, c5, c6, c7, a8] t := h7.set 7 c7
  have h9 : Blk (((((((((w.setCell ⟨p, 0, none⟩ c0).setCell ⟨p, 1, none⟩ c1).setCell ⟨p, 2, none⟩ c2).setCell ⟨p, 3, none⟩ c3).setCell ⟨p, 4, none⟩ c4).setCell ⟨p, 5, none⟩ c5).setCell ⟨p, 6, none⟩ c6).setCell ⟨p, 7, none⟩ c7).setCell ⟨p, 8, none⟩ c8) p #[c0, c1, c2, c3, c4, c5, c6, c7, c8] t := h8.set 8 c8
  exact ⟨⟨h.cell 0 _ rfl, h.frozen 0⟩, ⟨h1.cell 1 _ rfl, h1.frozen 1⟩, ⟨h2.cell 2 _ rfl, h2.frozen 2⟩, ⟨h3.cell 3 _ rfl, h3.frozen 3⟩, ⟨h4.cell 4 _ rfl, h4.frozen 4⟩, ⟨h5.cell 5 _ rfl, h5.frozen 5⟩, ⟨h6.cell 6 _ rfl, h6.frozen 6⟩, ⟨h7.cell 7 _ rfl, h7.frozen 7⟩, ⟨h8.cell 8 _ rfl, h8.frozen 8⟩, h9, set_chg (set_chg (set_chg (set_chg (set_chg (set_chg (set_chg (set_chg (set_chg (Chg.refl _)))))))))⟩
theorem blk9_base {w : World} {p t : Nat} {a0 a1 a2 a3 a4 a5 a6 a7 a8 : Value} (h : Blk w p #[a0, a1, a2, a3, a4, a5, a6, a7, a8] t) :
    w.cell? ⟨p, 0, none⟩ = some a0 ∧ w.cell? ⟨p, 1, none⟩ = some a1 ∧ w.cell? ⟨p, 2, none⟩ = some a2 ∧ w.cell? ⟨p, 3, none⟩ = some a3 ∧ w.cell? ⟨p, 4, none⟩ = some a4 ∧ w.cell? ⟨p, 5, none⟩ = some a5 ∧ w.cell? ⟨p, 6, none⟩ = some a6 ∧ w.cell? ⟨p, 7, none⟩ = some a7 ∧ w.cell? ⟨p, 8, none⟩ = some a8 :=
  ⟨h.cell 0 _ rfl, h.cell 1 _ rfl, h.cell 2 _ rfl, h.cell 3 _ rfl, h.cell 4 _ rfl, h.cell 5 _ rfl, h.cell 6 _ rfl, h.cell 7 _ rfl, h.cell 8 _ rfl⟩
theorem Blk.range {w : World} {b t : Nat} {cs : List Value} (h : Blk w b cs.toArray t) : w.rangeAt b 0 cs := fun j v hj => by
  rw [Nat.zero_add]
  exact h.cell j v (by simpa using hj)
end Go.Proofs.YtkhllknahjmciaaGreat
