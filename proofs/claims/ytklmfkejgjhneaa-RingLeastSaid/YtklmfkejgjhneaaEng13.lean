/-
  The engine: small lemmas for its users.
-/
import Derived.Test.YtklmfkejgjhneaaEng12
namespace Go.Eng
open Go.RowKit
theorem wr {n : Int} (h1 : -9223372036854775808 ≤ n) (h2 : n ≤ 9223372036854775807) : IntKind.i64.wrap n = n := by
  have e : IntKind.i64.wrap n = if (decide (n % 2 ^ 64 ≥ 2 ^ 63)) = true then n % 2 ^ 64 - 2 ^ 64 else n % 2 ^ 64 := rfl
  rw [e]
  by_cases h : n % 2 ^ 64 ≥ 2 ^ 63
  · rw [if_pos (by simpa using h)]
    omega
  · rw [if_neg (by simpa using h)]
    omega
theorem foldl_take {α γ : Type} (f : γ → α → γ) (z : γ) (l : List α) (k : Nat) (d : α) (h : k < l.length) : (l.take (k + 1)).foldl f z = f ((l.take k).foldl f z) (l.getD k d) := by
  rw [List.take_succ_eq_append_getElem h, List.foldl_append]
  simp [List.getD, List.getElem?_eq_getElem h]
theorem dlt {a b : Int} (h : decide (a < b) = true) : a < b := of_decide_eq_true h
theorem dnlt {a b : Int} (h : decide (a < b) = false) : b ≤ a := by simpa using h
theorem Ctr.of_eq {P : Program} {f : FuncId} {args args' : List AV} {os : List AO} {r : AV} (h : AVsEq args args') (c : Ctr P f args os r) : Ctr P f args' os r :=
  ⟨c.1, fun w vs hl hr => c.2 w vs (h.get.1.trans hl) fun j h1 h2 => (h.get.2 j h1 (by rw [← h.get.1]; exact h1)).rep0 (hr j (by rw [← h.get.1]; exact h1) h2)⟩
theorem rn_one (id : Nat) : rn [(0, id)] 0 = id := rfl
theorem RetIs.so {e sz n n' : Nat} {get get' : Nat → List AV} {id nid : Nat} {O : List OE} (hg : getO id O = some ([], .row e sz n' get')) (hn : n' = n) (hget : ∀ k, k < n → get' k = get k) (hf : ∀ k, k < n → AV.freshs (get k) = true) :
    RetIs [.row e sz n get] (.so 0) (.so id) O nid := by
  subst hn
  refine ⟨[(0, id)], ⟨⟨⟨rfl, rfl, ?_⟩, trivial⟩, ⟨⟨rfl, rfl, trivial, ?_⟩, trivial⟩, rfl⟩, rfl, hf⟩
  · exact rfl
  · show (match AO.row e sz n' get, getO id O with
      | .dead, _ => True
      | o, some ([], o') => AOEq (o.ren (rn [(0, id)])) o'
      | _, _ => False)
    rw [hg]
    exact ⟨rfl, rfl, rfl, hget⟩
theorem RetA.rs {sz n n' : Nat} {get get' : Nat → List AV} {O : List OE} {nid : Nat} (hn : n' = n) (hget : ∀ k, k < n → get' k = get k) : RetA (.rs sz n get) (.rs sz n' get') O nid := ⟨rfl, ⟨rfl, hn, hget⟩⟩
theorem RetIs.mo {n n' clock : Nat} {key key' val val' : Nat → AV} {born born' : Nat → Nat} {id nid : Nat} {O : List OE} (hg : getO id O = some ([], .mp n' key' val' born' clock)) (hn : n' = n)
    (hk : ∀ k, k < n → key' k = key k ∧ val' k = val k ∧ born' k = born k) (hf : ∀ k, k < n → AV.fresh (key k) = true ∧ AV.fresh (val k) = true) : RetIs [.mp n key val born clock] (.mo 0) (.mo id) O nid := by
  subst hn
  refine ⟨[(0, id)], ⟨⟨⟨rfl, rfl, ?_⟩, trivial⟩, ⟨⟨rfl, rfl, trivial, ?_⟩, trivial⟩, rfl⟩, rfl, hf⟩
  · exact rfl
  · show (match AO.mp n' key val born clock, getO id O with
      | .dead, _ => True
      | o, some ([], o') => AOEq (o.ren (rn [(0, id)])) o'
      | _, _ => False)
    rw [hg]
    exact ⟨rfl, rfl, hk⟩
end Go.Eng
