/-
  What the document fixes of certs as bytes (chapter 24): awake.
-/
import Derived.Test.YtnamcghcgcknpaaDecC
import Derived.Test.YtnamcghcgcknpaaEncG
import Derived.Laws.IdiomStrings
namespace Go.Proofs.Ytnamcghcgcknpaa
open Go.RowKit
set_option linter.unusedVariables false

/-- Bytes as a string. -/
def strOf (l : List Nat) : ByteArray := ⟨(l.map UInt8.ofNat).toArray⟩
theorem conv_str {w : World} {a : Addr} {n cap : Nat} {l : List Nat} (h : ∀ j u, (byteCells l)[j]? = some u → w.cell? (a.add j) = some u) (hb : ∀ b ∈ l, b < 256) (hn : l.length = n) :
    (convert 22 9 (.slice (some a) n cap)).run Try.prog w = .ok (.string (strOf l)) w := by
  subst hn
  have := run_convert_bytes_back (P := Try.prog) w 22 9 5 a cap (l.map UInt8.ofNat) Try.underlying22 Try.underlying5 Try.underlying9 (fun j hj => by
    have hj' : j < l.length := by simpa using hj
    have hbj := hb l[j] (List.getElem_mem _)
    rw [h j (.int .u8 (l[j] : Int)) (by simp [byteCells, hj'])]
    simp only [List.getElem_map, UInt8.toNat_ofNat']
    rw [Nat.mod_eq_of_lt (by omega)])
  rw [List.length_map] at this
  exact this
theorem str_self (s : ByteArray) (w : World) : (binOp .eql 9 (.string s) (.string s)).run Try.prog w = .ok (.bool true) w := by
  simp [go_sem]
def awk : Crt := ⟨0, [], [], ⟨2, false, [], 1, 0⟩⟩
theorem awk_code : codeC awk = 0 := by decide
theorem awk_bytes : eCrt awk = [67, 0, 0, 0, 2, 1] := by decide
set_option maxRecDepth 100000 in
set_option maxHeartbeats 1000000 in
theorem awake_any (w : World) : Calls Try.prog 8 #[] w fun e w' => e = .returned (.bool true) ∧ Ext w w' := by
  have hE := enc_any (w := w) (c := awk) (a1 := none) (cap1 := 0) (a2 := none) (cap2 := 0) (a3 := none) (cap3 := 0) (us := []) ⟨⟨Nat.le_refl _, by unfold maxLen; omega, fun j u hu => by simp [awk] at hu⟩, ⟨Nat.le_refl _, by unfold maxLen; omega, fun j u hu => by simp at hu⟩, trivial, ⟨Nat.le_refl _, by unfold maxLen; omega, fun j u hu => by simp [awk, wordCells] at hu⟩⟩ (by decide) (by intro d hd; simp [awk] at hd)
  rw [awk_code, awk_bytes] at hE
  unfold crtV at hE
  simp only [awk, List.length_nil] at hE
  have HE := Lib.hid hE
  have HD := Lib.hid (fun w => decode_any (w := w) (a := none) (cap := 0) (bs := []) ⟨Nat.le_refl _, by unfold maxLen; simp, fun j u hu => by simp [byteCells] at hu⟩ (by intro b hb; simp at hb) (by simp))
  clear hE
  go_enter Try.func8, Try.ntmps8
  go_wp2_with fail
  refine HE.out.mono ?_
  rintro e w1 ⟨hx1, hw⟩
  rcases hw with ⟨-, v, rfl, hown⟩ | ⟨h, -⟩
  case inr => exact absurd rfl h
  obtain ⟨g, cap, rfl, hnews⟩ := own_form hown (by decide)
  have HNW := Lib.hid hnews
  have HX1 := Lib.hid hx1
  simp only [List.length_cons, List.length_nil, Nat.reduceAdd]
  clear hnews hx1 hown
  go_wp2_with fail
  refine (HD.out _).mono ?_
  rintro e w2 ⟨hx2, he⟩
  have hdn : dCrtR [] = none := rfl
  rw [hdn] at he
  simp only at he
  subst he
  have hcv : ∀ W, Ext w1 W → (convert 22 9 (.slice (some ⟨g, 0, none⟩) 6 cap)).run Try.prog W = .ok (.string (strOf [67, 0, 0, 0, 2, 1])) W := fun W hW =>
    conv_str (fun j u hu => (hW.cell (lt_of_cell (HNW.out j u hu)) (fun h => h)).trans (HNW.out j u hu)) (by decide) rfl
  have hc1 := hcv (w2.alloc (Obj.cells #[.int .i64 0, .slice none 0 0, .slice none 0 0, .int .i64 0, .bool false, .slice none 0 0, .int .i64 0, .float .f64 0] 33)) (hx2.alloc _)
  have hS : strOf [67, 0, 0, 0, 2, 1] = { data := #[67, 0, 0, 0, 2, 1] } := rfl
  rw [hS] at hc1
  have hq := str_self { data := #[67, 0, 0, 0, 2, 1] }
  have HX2 := Lib.hid hx2
  have hsf := run_store_f
  clear hcv hx2 hS hdn
  unfold nilC
  go_wp2_with fail
  go_ret
  exact ⟨rfl, (HX1.out.trans HX2.out).alloc _⟩
end Go.Proofs.Ytnamcghcgcknpaa
