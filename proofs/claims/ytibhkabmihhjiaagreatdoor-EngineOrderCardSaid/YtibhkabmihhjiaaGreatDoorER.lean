/-
  The reckoner's regions that draw their order, as a whole.
-/
import Derived.Test.YtibhkabmihhjiaaGreatDoorEQ
namespace Go.Proofs.YtibhkabmihhjiaaGreatDoor
open Go Go.RowKit
set_option linter.unusedVariables false
set_option linter.unusedSimpArgs false
namespace Ev
variable {P : Program}
theorem getD_false {listed : Array Bool} {i : Nat} (h : listed.getD i true = false) : ∃ hi : i < listed.size, listed[i] = false := by
  rw [Array.getD_eq_getD_getElem?] at h
  by_cases hi : i < listed.size
  · exact ⟨hi, by simpa [hi] using h⟩
  · simp [hi] at h
theorem ready_none {ops : Array Oper} {listed : Array Bool} (h0 : listed.toList.count false ≤ 0) : Region.ready .any ops listed = [] := by
  cases hr : Region.ready .any ops listed with
  | nil => rfl
  | cons i r =>
    have hi : i ∈ Region.ready .any ops listed := by rw [hr]; exact List.mem_cons_self ..
    obtain ⟨h1, -⟩ := mem_ready.1 hi
    obtain ⟨h2, h3⟩ := getD_false h1
    have : false ∈ listed.toList := by rw [← h3]; exact Array.mem_toList_iff.2 (Array.getElem_mem h2)
    have := List.count_pos_iff.2 this
    omega
theorem count_less {listed : Array Bool} {i m : Nat} (h : listed.getD i true = false) (hm : listed.toList.count false ≤ m + 1) : (listed.setIfInBounds i true).toList.count false ≤ m := by
  obtain ⟨h2, h3⟩ := getD_false h
  have h4 : false ∈ listed.toList := by rw [← h3]; exact Array.mem_toList_iff.2 (Array.getElem_mem h2)
  have h5 := List.count_pos_iff.2 h4
  rw [Array.toList_setIfInBounds, List.count_set (by simpa using h2)]
  have e1 : (listed.toList[i]'(by simpa using h2) == false) = true := by simp [Array.getElem_toList, h3]
  rw [if_pos e1, if_neg (by decide)]
  omega
theorem getD_set {listed : Array Bool} {i : Nat} (hi : i < listed.size) : (fun k => (listed.setIfInBounds i true).getD k false = true) = fun k => listed.getD k false = true ∨ k = i := by
  funext k
  apply propext
  simp only [Array.getD_eq_getD_getElem?, Array.getElem?_setIfInBounds]
  by_cases h : i = k
  · subst h
    simp [hi]
  · rw [if_neg h]
    exact ⟨.inl, fun h' => h'.resolve_right fun e => h e.symm⟩
theorem deps_ready {o : Oper} {listed : Array Bool} (h : ∀ e ∈ o.after, Region.binds .any e = true → listed.getD e.on false = true) : ∀ d ∈ depsOf o, listed.getD d false = true := by
  intro d hd
  unfold depsOf at hd
  obtain ⟨e, he, rfl⟩ := List.mem_map.1 hd
  obtain ⟨h1, h2⟩ := List.mem_filter.1 he
  exact h e (Array.mem_toList_iff.1 h1) h2
theorem ready_deps' {o : Oper} {listed : Array Bool} (h : ∀ d ∈ depsOf o, listed.getD d false = true) : ∀ e ∈ o.after, Region.binds .any e = true → listed.getD e.on false = true :=
  fun e he hb => h _ (List.mem_map.2 ⟨e, List.mem_filter.2 ⟨Array.mem_toList_iff.2 he, hb⟩, rfl⟩)
def itemsOf (L : List Oper) : List (Nat × Oper) := L.zipIdx.map fun x => (x.2, x.1)
theorem items_get {L : List Oper} {x : Nat × Oper} : x ∈ itemsOf L ↔ L[x.1]? = some x.2 := by
  unfold itemsOf
  rw [List.mem_map]
  constructor
  · rintro ⟨y, hy, rfl⟩
    exact List.mk_mem_zipIdx_iff_getElem?.1 hy
  · intro h
    exact ⟨(x.2, x.1), List.mk_mem_zipIdx_iff_getElem?.2 h, rfl⟩
section
variable {w0 : Base} {ρ0 : Pl} {σ0 : St} {n : Nat} {a0 : Env} {L : List Oper}
theorem all_done (hf : RegF n L) {ops : Array Oper} (hL : ops.toList = L) {listed : Array Bool} (hsz : listed.size = ops.size) (hr : Region.ready .any ops listed = []) : ∀ i, i < ops.size → listed.getD i false = true := by
  intro i
  induction i using Nat.strongRecOn with
  | _ i ih =>
    intro hi
    cases hq : listed.getD i false with
    | true => rfl
    | false =>
      exfalso
      have h1 : listed.getD i true = false := by
        rw [Array.getD_eq_getD_getElem?] at hq ⊢
        have : i < listed.size := by omega
        simpa [this] using hq
      have ho : ops[i]? = some ops[i] := by simp [hi]
      have hoL : L[i]? = some ops[i] := by rw [← hL, Array.getElem?_toList]; exact ho
      have : i ∈ Region.ready .any ops listed := mem_ready.2 ⟨h1, _, ho, ready_deps' fun d hd => by
        have hlt := hf.low i _ hoL d hd
        exact ih d hlt (by omega)⟩
      rw [hr] at this
      cases this
theorem CI.finish (hf : RegF n L) {A : Act} {w : World} {ρ : Pl} {s : DS} {D : Nat → Prop} (h : CI P n L a0 ρ0 σ0 w0 D A w ρ s) (hD : ∀ i, i < L.length → D i) : CPost w0 ρ0 σ0 n .normal s.a s.σ .normal A w := by
  refine ⟨ρ, h.sim, h.st, h.dfr, rfl, ?_⟩
  refine ⟨fun t v hv => ?_, h.dfr, h.sz⟩
  cases hw : writerOf t L 0 with
  | none =>
    rw [h.init t (fun i hi => by rw [hw] at hi; cases hi)] at hv
    exact h.tmp0 t v (fun i hi => by rw [hw] at hi; cases hi) hv
  | some i =>
    obtain ⟨-, o, ho, -⟩ := writer_get hw
    have hi : i < L.length := by simpa using (List.getElem?_eq_some_iff.1 ho).1
    exact h.tmpD t i v hw (hD i hi) hv
theorem stage_unroll {call : CallF} {ms : List Nat} {l : List (Nat × Oper)} {k : Nat} {s : DS} {r : Ex × Env × St} (h : stageD P call n L ms l k s = .ok r) :
    ∃ k' s', passD P n L l s = .ok s' ∧ s'.held.all (fun x => holdsH P s'.σ x.2) = true ∧ afterD P call n L ms l (stageD P call n L ms l k') s' = .ok r := by
  cases k with
  | zero => cases h
  | succ k =>
    have h : (match passD P n L l s with
      | .no w => .no w
      | .ok s => match s.held.all (fun h => holdsH P s.σ h.2) with
        | false => .no [7008]
        | true => afterD P call n L ms l (stageD P call n L ms l k) s : Out) = .ok r := h
    cases hp : passD P n L l s with
    | no w => rw [hp] at h; cases h
    | ok s' =>
      rw [hp] at h
      simp only at h
      cases hq : s'.held.all (fun h => holdsH P s'.σ h.2) with
      | false => rw [hq] at h; cases h
      | true => rw [hq] at h; exact ⟨k, s', rfl, hq, h⟩
theorem after_effect {call : CallF} {ms : List Nat} {ih : DS → Out} {s : DS} {r : Ex × Env × St} (h : afterD P call n L ms (itemsOf L) ih s = .ok r) {i : Nat} {o : Oper} (ho : L[i]? = some o) (hi : ¬ SD s i) (hrd : readyD s.done o = true) :
    wantA L s.a o.guard = some true ∧ effA P call n o s.a s.σ (fun a σ => ih ⟨s.done ||| 2 ^ i, a, σ, s.held.filter fun x => !Nat.testBit (ms.getD i 0) x.1⟩) = .ok r := by
  unfold afterD at h
  have hmem : (i, o) ∈ (itemsOf L).filter fun x => !Nat.testBit s.done x.1 := List.mem_filter.2 ⟨items_get.2 ho, by
    unfold SD at hi
    simpa using hi⟩
  split at h
  · next he => rw [he] at hmem; cases hmem
  · next y rest he =>
    rw [he] at hmem
    have hm2 : (i, o) ∈ (y :: rest).filter fun x => readyD s.done x.2 := List.mem_filter.2 ⟨hmem, hrd⟩
    split at h
    · next x hx =>
      rw [hx] at hm2
      obtain rfl := (List.mem_singleton.1 hm2).symm
      split at h
      · next hw => exact ⟨hw, h⟩
      · cases h
    · cases h
theorem drawn_go {call : CallF} (hg : Good P call) (hf : RegF n L) {ops : Array Oper} (hL : ops.toList = L) {ex : Ex} {a' : Env} {σ' : St} : ∀ (m : Nat) (listed : Array Bool) (A : Act) (w : World) (ρ : Pl) (s : DS) (k : Nat),
    listed.size = ops.size → listed.toList.count false ≤ m → CI P n L a0 ρ0 σ0 w0 (fun i => listed.getD i false = true) A w ρ s → s.held.all (fun x => holdsH P s.σ x.2) = true →
    afterD P call n L (masksOf L) (itemsOf L) (stageD P call n L (masksOf L) (itemsOf L) k) s = .ok (ex, a', σ') →
    wpAny P .any ops (CPost w0 ρ0 σ0 n ex a' σ') m listed A w := by
  have fin : ∀ (listed : Array Bool) (A : Act) (w : World) (ρ : Pl) (s : DS) (k : Nat),
      listed.size = ops.size → CI P n L a0 ρ0 σ0 w0 (fun i => listed.getD i false = true) A w ρ s →
      afterD P call n L (masksOf L) (itemsOf L) (stageD P call n L (masksOf L) (itemsOf L) k) s = .ok (ex, a', σ') →
      Region.ready .any ops listed = [] → CPost w0 ρ0 σ0 n ex a' σ' .normal A w := by
    intro listed A w ρ s k hsz h ha hr
    have hall := all_done hf hL hsz hr
    have hlen : L.length = ops.size := by rw [← hL]; simp
    have hnone : (itemsOf L).filter (fun x => !Nat.testBit s.done x.1) = [] := by
      rw [List.filter_eq_nil_iff]
      intro x hx
      have hx := items_get.1 hx
      have hlt := (List.getElem?_eq_some_iff.1 hx).1
      have := h.sub x.1 (hall x.1 (by omega))
      unfold SD at this
      simp [this]
    unfold afterD at ha
    rw [hnone] at ha
    simp only [Rs.ok.injEq, Prod.mk.injEq] at ha
    obtain ⟨rfl, rfl, rfl⟩ := ha
    exact h.finish hf fun i hi => hall i (by omega)
  intro m
  induction m with
  | zero => intro listed A w ρ s k hsz hc h hh ha; exact ⟨ready_none hc, fin listed A w ρ s k hsz h ha (ready_none hc)⟩
  | succ m ih =>
    intro listed A w ρ s k hsz hc h hh ha
    refine ⟨fun hr => fin listed A w ρ s k hsz h ha hr, fun i hi => ?_⟩
    obtain ⟨hu, o, hoa, hdeps⟩ := mem_ready.1 hi
    have ho : L[i]? = some o := by rw [← hL, Array.getElem?_toList]; exact hoa
    have hr := deps_ready hdeps
    obtain ⟨hlt, hfalse⟩ := getD_false hu
    have hiD : ¬ listed.getD i false = true := by
      rw [Array.getD_eq_getD_getElem?]
      simp [hlt, hfalse]
    have hsz' : (listed.setIfInBounds i true).size = ops.size := by rw [Array.size_setIfInBounds]; exact hsz
    by_cases hS : SD s i
    · refine h.floatStep hf hL hh ho hiD hS hr fun A' w' ρ' h' => ?_
      rw [← getD_set hlt] at h'
      exact ih _ A' w' ρ' s k hsz' (count_less hu hc) h' hh ha
    · have hrd : readyD s.done o = true := List.all_eq_true.2 fun d hd => h.sub d (hr d hd)
      obtain ⟨hw, he⟩ := after_effect ha ho hS hrd
      refine h.effect hg hf hL ho hS hr hw he (fun A' w' ρ' s2 h2 h' => ?_) (fun v σ1 e1 e2 ρ1 v' w1 k1 k2 k3 => ?_)
      · rw [← getD_set hlt] at h'
        obtain ⟨k', s3, p1, p2, p3⟩ := stage_unroll h2
        exact ih _ A' w' ρ' s3 k' hsz' (count_less hu hc) (passD_keeps hf _ _ _ (fun x hx => items_get.1 hx) h' p1) p2 p3
      · subst e1; subst e2
        exact ⟨ρ1, k1, k2, h.dfr, v', rfl, k3⟩
end
theorem regD_sound {w0 : Base} {w : World} {ρ : Pl} {σ : St} {n : Nat} {a : Env} {A : Act} (hm : P.follows .mixedOrders = true) {call : CallF} (hg : Good P call) (id : Nat) (ops : Array Oper) (hs : Sim w0 ρ σ w) (ha : ActR ρ n a A) {ex : Ex} {a' : Env} {σ' : St}
    (h : regD P call n ops.toList a σ = .ok (ex, a', σ')) : (Code.region id ops true).wp P (CPost w0 ρ σ n ex a' σ') A w := by
  apply wp_region_any hm
  unfold regD at h
  split at h
  · cases h
  · next hok =>
    have hf := regOk_spec hok
    obtain ⟨k', s3, p1, p2, p3⟩ := stage_unroll h
    have hnone : ∀ i : Nat, ¬ (Array.replicate ops.size false).getD i false = true := by
      intro i
      rw [Array.getD_eq_getD_getElem?]
      by_cases hi : i < ops.size <;> simp [hi]
    have hz : ∀ (i : Nat), ¬ SD ⟨0, a, σ, []⟩ i := by intro i hi; unfold SD at hi; simp at hi
    have h0 : CI P n ops.toList a ρ σ w0 (fun i => (Array.replicate ops.size false).getD i false = true) A w.drew ρ ⟨0, a, σ, []⟩ := {
      sub := fun i hi => absurd hi (hnone i)
      dcl := fun i o hi => absurd hi (hnone i)
      scl := fun i o hi => absurd hi (hz i)
      pend := fun i o hi => absurd hi (hz i)
      init := fun t _ => rfl
      tmpD := fun t i v _ hi => absurd hi (hnone i)
      tmp0 := fun t v _ hv => ha.tmp t v hv
      sim := hs.drew
      st := Step.refl ρ σ
      dfr := ha.defers
      sz := ha.size
      hd := fun i b e hj => by cases hj
      hinj := fun i j b e e' hj => by cases hj }
    refine drawn_go hg hf rfl ops.size _ A _ ρ s3 k' (by simp) ?_ (passD_keeps hf _ _ _ (fun x hx => items_get.1 hx) h0 p1) p2 p3
    simp
end Ev
end Go.Proofs.YtibhkabmihhjiaaGreatDoor
