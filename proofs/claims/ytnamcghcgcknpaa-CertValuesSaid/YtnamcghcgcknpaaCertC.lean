/-
  The reader of certs (chapter 24): a walk.
-/
import Derived.Test.YtnamcghcgcknpaaCertB
import Derived.Test.YtnamcghcgcknpaaOwn
namespace Go.Proofs.Ytnamcghcgcknpaa
open Go.RowKit
set_option linter.unusedVariables false

/-! ### Rows of the call's own -/
section
variable {w w' : World} {base : Nat} {e : TypeId} {size : Nat} {v : Value} {n : Nat} {xs : List Value}
theorem own_chg {S : Nat → Prop} (h : w.ownsRow base e size v n xs) (k : Chg S w w') (hS : ∀ g, v.ownBlock = some g → ¬ S g) : w'.ownsRow base e size v n xs := by
  refine ⟨h.1, ?_⟩
  rcases h.2 with h | ⟨g, cap, cur, rfl, h1, h2, h3⟩
  · exact .inl h
  · refine .inr ⟨g, cap, cur, rfl, h1, ?_, h3⟩
    rw [k.block g (Array.getElem?_eq_some_iff.1 h2).1 (hS g rfl)]
    exact h2
/-- Only blocks of S have turned, none of this row's. -/
theorem own_low {S : Nat → Prop} (h : w.ownsRow base e size v n xs) (k : Chg S w w') (hS : ∀ g, base ≤ g → ¬ S g) : w'.ownsRow base e size v n xs :=
  own_chg h k fun g hg => hS g (h.lt g hg).1
theorem Chg.of_grown {row : Option Nat} (h : w.grownBy w' row) : Chg (fun k => some k = row) w w' :=
  ⟨h.os, h.tape, h.output, h.size, fun k hk he => h.block k hk he⟩
/-- What is handed in as a slice of the call's own: its form. -/
theorem own_slice (h : w.ownsRow base e size v n xs) : ∃ a cap, v = .slice a n cap := by
  rcases h.2 with ⟨rfl, rfl⟩ | ⟨g, cap, cur, rfl, _⟩
  · exact ⟨none, 0, rfl⟩
  · exact ⟨_, cap, rfl⟩
end
/-- Behind an append onto a row of the call's own. -/
theorem chg_grow {w w2 w' : World} {rb B : Nat} {o : Obj} {e : TypeId} {size n : Nat} {v : Value} {xs : List Value} (h : Chg (fun k => k = rb ∨ B ≤ k) w w2) (hown : w2.ownsRow B e size v n xs) (g : (w2.alloc o).grownBy w' v.ownBlock) : Chg (fun k => k = rb ∨ B ≤ k) w w' := by
  refine (h.alloc o).trans ⟨g.os, g.tape, g.output, g.size, fun k hk he => g.block k hk fun hs => ?_⟩
  exact he (.inr (hown.lt k hs.symm).1)
theorem rd_grow {w2 w' : World} {rb B : Nat} {a : Option Addr} {len cap : Nat} {bs rest : List Nat} {o : Obj} {e : TypeId} {size n : Nat} {v : Value} {xs : List Value} (h : Rd w2 rb a len cap bs rest) (hB : rb < B) (hown : w2.ownsRow B e size v n xs) (g : (w2.alloc o).grownBy w' v.ownBlock) : Rd w' rb a len cap bs rest := by
  have h1 : Rd (w2.alloc o) rb a len cap bs rest := h.chg (S := fun _ => False) ((Chg.refl _).alloc _) (fun _ _ h => h)
  refine h1.chg (Chg.of_grown g) fun k hk hs => ?_
  have := (hown.lt k hs.symm).1
  omega
/-- Another row, behind an append onto a row of the call's own. -/
theorem own_grow {w2 w' : World} {B B' : Nat} {o : Obj} {e e' : TypeId} {size size' n n' : Nat} {v v' : Value} {xs xs' : List Value} (h : w2.ownsRow B' e' size' v' n' xs') (g : (w2.alloc o).grownBy w' v.ownBlock) (hne : ∀ k, v'.ownBlock = some k → v.ownBlock ≠ some k) : w'.ownsRow B' e' size' v' n' xs' :=
  own_chg (h.alloc o) (Chg.of_grown g) fun k hk hs => hne k hk hs.symm
theorem info_step : (Try.prog.info? 56).map (fun i => (i.zero, i.size, i.bytes)) = some (some (.agg #[.int .i64 0, .bool false]), 2, 16) := by kernel_rfl
/-- The cells of steps. -/
def stepCells (l : List (Nat × Bool)) : List Value := l.flatMap fun s => [.int .i64 (s.1 : Int), .bool s.2]
theorem stepCells_app (a b : List (Nat × Bool)) : stepCells (a ++ b) = stepCells a ++ stepCells b := by simp [stepCells]
theorem stepCells_length (l : List (Nat × Bool)) : (stepCells l).length = l.length * 2 := by
  induction l with
  | nil => rfl
  | cons s l ih =>
    have : stepCells (s :: l) = [.int .i64 (s.1 : Int), .bool s.2] ++ stepCells l := rfl
    rw [this, List.length_append, ih]; simp; omega
def preL {α : Type} (l : List α) (o : Option (List α × List Nat)) : Option (List α × List Nat) := o.map fun p => (l ++ p.1, p.2)
theorem preL_nil {α : Type} (o : Option (List α × List Nat)) : preL [] o = o := by cases o <;> rfl
theorem preL_none {k : Nat} {l : List Nat} {bs : List Nat} (h : dNum 0 0 bs = none) : preL l (dNums (k + 1) bs) = none := by
  simp only [dNums, h]; rfl
theorem preL_some {k n : Nat} {l : List Nat} {bs r : List Nat} (h : dNum 0 0 bs = some (n, r)) : preL l (dNums (k + 1) bs) = preL (l ++ [n]) (dNums k r) := by
  simp only [dNums, h]
  cases dNums k r with
  | none => rfl
  | some p => simp [preL]
theorem Got.gone {α : Type} {w w' : World} {rb B : Nat} {a : Option Addr} {len cap : Nat} {bs : List Nat} {V : α → Value → World → Prop} {e : Ending} (o : Option (α × List Nat)) (ho : o = none) (h : Chg (fun k => k = rb) w w') (hg : Gone B e w') (hB : w.heap.size ≤ B) : Got w rb a len cap bs o V e w' := by
  subst ho
  exact ⟨h, hg.mono hB⟩
/-- The loop's state: i steps are read. -/
def WalkSt (w wr : World) (rb : Nat) (a : Option Addr) (len cap : Nat) (bs rest0 : List Nat) (n i : Nat) (v : Value) : Prop :=
  Chg (fun k => k = rb ∨ w.heap.size ≤ k) w wr ∧ i ≤ n ∧ ∃ rest l, Rd wr rb a len cap bs rest ∧ l.length = i ∧ dNums n rest0 = preL l (dNums (n - i) rest) ∧ wr.ownsRow w.heap.size 56 2 v i (stepCells (l.map stepOf))
theorem dWalk_num {bs : List Nat} (h : dNum 0 0 bs = none) : dWalk bs = none := by simp [dWalk, h]
theorem dWalk_big {bs r : List Nat} {n : Nat} (h : dNum 0 0 bs = some (n, r)) (h2 : 2000 < n) : dWalk bs = none := by simp [dWalk, h, h2]
theorem dWalk_none {bs r : List Nat} {n : Nat} (h : dNum 0 0 bs = some (n, r)) (h2 : dNums n r = none) : dWalk bs = none := by
  simp only [dWalk, h, h2]
  split <;> rfl
theorem dWalk_some {bs r t : List Nat} {n : Nat} {l : List Nat} (h : dNum 0 0 bs = some (n, r)) (h1 : ¬ 2000 < n) (h2 : dNums n r = some (l, t)) : dWalk bs = some (l.map stepOf, t) := by
  simp only [dWalk, h, h2, if_neg h1]
theorem mod2 (k : Nat) : (((k : Int) % 2) == 1) = (k % 2 == 1) := by
  have : ((k : Int) % 2) = ((k % 2 : Nat) : Int) := by omega
  rw [this]
  rcases Nat.mod_two_eq_zero_or_one k with h | h <;> rw [h] <;> rfl
theorem step_news (w : World) (k : Nat) (t : Nat) (j : Nat) (u : Value) (h : [Value.int .i64 ((k : Int) / 2), .bool ((k : Int) % 2 == 1)][j]? = some u) :
    (w.alloc (.cells #[.int .i64 ((k : Int) / 2), .bool ((k : Int) % 2 == 1)] t)).cell? ((⟨w.heap.size, 0, none⟩ : Addr).add j) = some u := by
  match j, h with
  | 0, h => simpa [go_sem] using h
  | 1, h => simpa [go_sem] using h
set_option maxRecDepth 100000 in
theorem walk_any {w : World} {rb : Nat} {a : Option Addr} {len cap : Nat} {bs rest : List Nat} (h : Rd w rb a len cap bs rest) :
    Calls Try.prog 46 #[.pointer (some ⟨rb, 0, none⟩)] w (Got w rb a len cap bs (dWalk rest) fun l v w' => w'.ownsRow w.heap.size 56 2 v l.length (stepCells l) ∧ l.length ≤ 2000) := by
  obtain ⟨i0, hi0, hii⟩ := Option.map_eq_some_iff.1 info_step
  obtain ⟨hz0, hz1, hz2⟩ : i0.zero = some (.agg #[.int .i64 0, .bool false]) ∧ i0.size = 2 ∧ i0.bytes = 16 := by
    have := hii; simp at this; exact this
  have HI := Lib.hid (And.intro hi0 (And.intro hz0 (And.intro hz1 hz2)))
  clear hi0 hii hz0 hz1 hz2
  have H := Lib.hid h
  clear h
  have hlt := H.out.lt
  obtain ⟨D, hD⟩ : ∃ D, D = dWalk rest := ⟨_, rfl⟩
  rw [← hD]
  have HD := Lib.hid hD
  clear hD
  obtain ⟨V, hV⟩ : ∃ V : List (Nat × Bool) → Value → World → Prop, V = fun l v w' => w'.ownsRow w.heap.size 56 2 v l.length (stepCells l) ∧ l.length ≤ 2000 := ⟨_, rfl⟩
  rw [← hV]
  have HV := Lib.hid hV
  clear hV
  have HB := Lib.hid (num_any H.out)
  go_enter Try.func46, Try.ntmps46
  go_wp2_with fail
  refine HB.out.mono ?_
  rintro e w1 ⟨hc, hg⟩
  have HC := Lib.hid hc
  clear hc HB
  cases hN : dNum 0 0 rest with
  | none =>
    rw [hN] at hg
    have hfin := Got.gone (a := a) (len := len) (cap := cap) (bs := bs) (V := V) D (HD.out.trans (dWalk_num hN)) HC.out hg (Nat.le_refl _)
    obtain ⟨p, ch, b, rfl, _⟩ := hg
    exact ⟨rfl, hfin⟩
  | some p =>
    obtain ⟨n, r⟩ := p
    rw [hN] at hg
    obtain ⟨v, rfl, ⟨rfl, h63⟩, hrd⟩ := hg
    have HN := Lib.hid hN
    have HR := Lib.hid hrd
    clear hN hrd
    by_cases hbig : 2000 < n
    · have hbig' : (2000 : Int) < n := by omega
      have HDN := Lib.hid (HD.out.trans (dWalk_big HN.out hbig))
      go_wp2_with fail
      refine (bad_any HR.out.c1).mono ?_
      rintro e w2 ⟨hx, hg⟩
      have hfin := Got.bad (a := a) (len := len) (cap := cap) (bs := bs) (V := V) D HDN.out HC.out hx hg
      obtain ⟨p, ch, b, rfl, _⟩ := hg
      exact ⟨rfl, hfin⟩
    · have hbig' : ¬ (2000 : Int) < n := by omega
      go_wp2_with fail
      go_loopg [2, 12] n (fun g l2 l12 wr => ∃ (i : Nat) (v : Value), WalkSt w wr rb a len cap bs r n i v ∧ v = l2 ∧ l12 = .int .i64 i ∧ g = n - i)
      case atStart =>
        exact ⟨0, _, ⟨HC.out.mono (fun _ _ h => .inl h), by omega, r, [], HR.out, rfl, (preL_nil _).symm, World.ownsRow_nil _ _ _ _⟩, rfl, rfl, rfl⟩
      case round =>
        obtain ⟨i, v, ⟨hch, hi, rest1, l, hrd, hl, hdl, hown⟩, rfl, rfl, rfl⟩ := hrel
        have HCR := Lib.hid hch
        have HL := Lib.hid (And.intro hl hdl)
        have HO := Lib.hid hown
        have HRD := Lib.hid hrd
        have hsz := hch.size
        clear hl hdl hown hrd hch
        by_cases hin : i < n
        · have hin' : (i : Int) < n := by omega
          have HB := Lib.hid (num_any HRD.out)
          go_wp2_with fail
          refine HB.out.mono ?_
          rintro e w2 ⟨hc2, hg⟩
          have HC2 := Lib.hid hc2
          have hsz2 := hc2.size
          clear hc2 HB
          cases hK : dNum 0 0 rest1 with
          | none =>
            rw [hK] at hg
            have hfin : Got w rb a len cap bs D V e w2 := by
              refine Got.gone D (HD.out.trans (dWalk_none HN.out ?_)) ?_ hg hsz
              · rw [HL.out.2, show n - i = n - (i + 1) + 1 by omega, preL_none hK]
              · exact (HCR.out.trans (HC2.out.mono fun _ _ h => .inl h)).mono (fun k hk h => h.elim id fun h => absurd h (by omega))
            obtain ⟨p, ch, b, rfl, _⟩ := hg
            exact ⟨rfl, hfin⟩
          | some p =>
            obtain ⟨k, r1⟩ := p
            rw [hK] at hg
            obtain ⟨v', rfl, ⟨rfl, hk63⟩, hrd1⟩ := hg
            have HK := Lib.hid hK
            have HR1 := Lib.hid hrd1
            clear hK hrd1
            have hk0 : 0 ≤ (k : Int) := by omega
            have hk2 : (0 : Int) ≤ (k : Int) / 2 := by omega
            have HO2 : Hid (w2.ownsRow w.heap.size 56 2 v i (stepCells (l.map stepOf))) := Lib.hid (own_low HO.out HC2.out (by intro g hg h; subst h; omega))
            have hw2 : w.heap.size ≤ w2.heap.size := by omega
            go_wp2_with (at_builtin; refine wpList_append_st _ rfl (.tmp 16) (.tmp 23) 54 rfl w.heap.size 56 i0 (.agg #[.int .i64 0, .bool false]) 2 16 Try.underlying54 HI.out.1 HI.out.2.1 HI.out.2.2.1 HI.out.2.2.2 rfl (by decide) v i _ rfl (by exact (HO2.out.alloc _)) ⟨w2.heap.size, 0, none⟩ 1 1 [.int .i64 ((k : Int) / 2), .bool ((k : Int) % 2 == 1)] rfl rfl (by exact step_news w2 k _) (by simp [Value.oneCell']) (by unfold maxLen; omega) (by omega) (by simp; omega) ?_; intro v' w' u1 u2 u3; have HF := Lib.hid (And.intro u1 (And.intro u2 u3)); clear u1 u2 u3)
            go_roundg (n - (i + 1))
            case measure => omega
            case rel =>
              obtain ⟨u1, u2, u3⟩ := HF.out
              have hcell : stepCells (l.map stepOf) ++ [Value.int .i64 ((k : Int) / 2), .bool ((k : Int) % 2 == 1)] = stepCells ((l ++ [k]).map stepOf) := by
                rw [List.map_append, stepCells_app, mod2]
                rfl
              rw [hcell] at u1
              have hni : n - i = n - (i + 1) + 1 := by omega
              refine ⟨i + 1, v', ⟨chg_grow (HCR.out.trans (HC2.out.mono fun _ _ h => .inl h)) HO2.out u2, by omega, r1, l ++ [k], rd_grow HR1.out hlt HO2.out u2, by simp [HL.out.1], ?_, u1⟩, rfl, rfl, rfl⟩
              rw [HL.out.2, hni, preL_some HK.out]
        · obtain rfl : i = n := by omega
          have hin' : ¬ (i : Int) < i := by omega
          have HDN : Hid (D = some (l.map stepOf, rest1)) := Lib.hid (by
            rw [HD.out]
            refine dWalk_some HN.out hbig ?_
            rw [HL.out.2, Nat.sub_self]
            simp [preL, dNums])
          have HOV : Hid (V (l.map stepOf) v wr) := Lib.hid (by
            rw [HV.out]
            have h1 := HL.out.1
            refine ⟨?_, ?_⟩
            · rw [List.length_map, h1]; exact HO.out
            · rw [List.length_map, h1]; omega)
          go_wp2_with fail
          go_ret
          rw [HDN.out]
          exact ⟨HCR.out.mono (fun k hk h => h.elim id fun h => absurd h (by omega)), v, rfl, HOV.out, HRD.out⟩
end Go.Proofs.Ytnamcghcgcknpaa
