/-
  ScanKeeps: what it computes, and why that is true.
-/
import Derived.Test.YtklmfkejgjhneaaS9
namespace Go.Proofs.Ytklmfkejgjhneaa
open Go.Eng

theorem Bad_snoc (l : List Ver) (v : Ver) (name step : Int) : Bad (l ++ [v]) name step = if v.step ≤ step ∧ v.name = name then v.bad else Bad l name step := by
  unfold Bad badL
  rw [List.foldl_append, List.foldl_cons, List.foldl_nil]
  by_cases hs : v.step ≤ step
  · rw [if_pos (by simpa using hs), mget_mset]
    by_cases hn : v.name = name
    · rw [if_pos hn.symm, if_pos ⟨hs, hn⟩]; rfl
    · rw [if_neg (Ne.symm hn), if_neg (fun h => hn h.2)]
  · rw [if_neg (by simpa using hs), if_neg (fun h => hs h.1)]
theorem addV_bad {C : List Ver} {v : Ver} (hok : okV C = true) (hl : C.length ≤ 40) (h : (!rightV v || decide (v.step < lastOf C C.length)) = true) :
    (addV C v).1 = [] ∧ ((addV C v).2 = 1 ∧ rightV v = false ∨ (addV C v).2 = 15 ∧ rightV v = true) := by
  unfold addV
  cases hv : rightV v with
  | false => simp
  | true =>
    rw [hv] at h
    have h : v.step < lastOf C C.length := by simpa using h
    rw [if_neg (by simp; omega), if_neg (by rw [hok]; simp), if_pos h]
    simp
theorem addV_good {C : List Ver} {v : Ver} (hok : okV C = true) (hl : C.length ≤ 40) (h : (!rightV v || decide (v.step < lastOf C C.length)) = false) :
    addV C v = (C ++ [v], 0) ∧ okV (C ++ [v]) = true := by
  have h1 : rightV v = true := by
    cases hv : rightV v with
    | true => rfl
    | false => rw [hv] at h; simp at h
  rw [h1] at h
  have h2 : ¬ v.step < lastOf C C.length := by simpa using h
  refine ⟨?_, ?_⟩
  · unfold addV
    rw [if_neg (by rw [h1]; simp; omega), if_neg (by rw [hok]; simp), if_neg h2, if_neg (by omega)]
  · rw [okV_snoc, hok, h1, decide_eq_false h2]
    rfl

def vAt (l : List Ver) (k : Nat) : Ver := l.getD (k : Int).toNat dV
theorem right_bound {v : Ver} (h : rightV v = true) : 0 ≤ v.step ∧ v.step ≤ 1073741824 := by
  unfold rightV at h
  simp only [Bool.and_eq_true, decide_eq_true_eq] at h
  omega

set_option maxRecDepth 20000 in
set_option maxHeartbeats 8000000 in
theorem keeps_fn (l : List Ver) (name step : Int) : Ctr Try.prog 8 [.rs 3 l.length (rowsV l), .i .i64 name, .i .i64 step] [] (.b true) := by
  refine fn_of_exec tabOk Try.func8 (by kernel_rfl) rfl (N := Try.f8.ntmps) rfl (res := [.tmp 6]) rfl rfl [] ?_
  refine .inl ⟨[], _, small_fn, .inl ⟨fun h => RetIs.b rfl, fun h => ?_⟩⟩
  have h : decide ((l.length : Int) > 40) = false := h
  have h40 : l.length ≤ 40 := by simp at h; omega
  refine .inl ⟨[(8, 45, 3)], Nat × List Ver, fun x => x.1 ≤ l.length ∧ x.2.length ≤ x.1 ∧ okV x.2 = true, fun x => [⟨10, [], .i .i64 x.1⟩, ⟨8, [], .so 0⟩, ⟨9, [], .i .i64 (lastOf x.2 x.2.length)⟩],
    fun x => [⟨0, [], .row 45 3 x.2.length (rowsV x.2)⟩], fun x => l.length - x.1,
    ⟨(0, []), [], ⟨Nat.zero_le _, Nat.zero_le _, rfl⟩, rfl, rfl, rfl, rfl, rfl, ⟨⟨rfl, rfl⟩, rfl, rfl, rfl⟩, ⟨rfl, rfl, rfl, fun j hj => by simp at hj⟩⟩, ?_⟩
  rintro ⟨k, C⟩ ⟨hk, hC, hok⟩
  dsimp only at hk hC hok
  refine .inl ⟨fun hc => ?_, fun hc => ?_⟩
  · have hc := dlt hc
    refine .inl ⟨⟨by omega, by omega⟩, .inl ⟨_, _, Add_fn C (by omega) (vAt l k), Or.inl ⟨fun h1 => ?_, fun h1 => ?_⟩⟩⟩
    · have h1 : (!rightV (vAt l k) || decide ((vAt l k).step < lastOf C C.length)) = true := h1
      obtain ⟨hl, hr⟩ := addV_bad hok (by omega) h1
      refine Or.inl ⟨fun h2 => ?_, fun _ => ?_⟩
      · exfalso
        have h2 : ((((addV C (vAt l k)).2 != 1 && (addV C (vAt l k)).2 != 15) || (((addV C (vAt l k)).2 == 15) != rightV (vAt l k))) || (((addV C (vAt l k)).1.length : Int) != 0)) = true := h2
        rw [hl] at h2
        rcases hr with ⟨e, r⟩ | ⟨e, r⟩
        · rw [e, r] at h2; simp at h2
        · rw [e, r] at h2; simp at h2
      · exact ⟨(k + 1, C), [], ⟨by dsimp only; omega, by dsimp only; omega, hok⟩, by dsimp only; omega, rfl, rfl, rfl, rfl, rfl, ⟨⟨rfl, wr (by omega) (by omega)⟩, rfl, rfl, rfl⟩, ⟨rfl, rfl, rfl, fun _ _ => rfl⟩⟩
    · have h1 : (!rightV (vAt l k) || decide ((vAt l k).step < lastOf C C.length)) = false := h1
      obtain ⟨hg, hok2⟩ := addV_good hok (by omega) h1
      have hv : rightV (vAt l k) = true := by
        cases hv : rightV (vAt l k) with
        | true => rfl
        | false => rw [hv] at h1; simp at h1
      obtain ⟨hs0, hs1⟩ := right_bound hv
      have hw : IntKind.i64.wrap ((vAt l k).step - 1) = (vAt l k).step - 1 := wr (by omega) (by omega)
      have nN : (addV C (vAt l k)).1.length < 2 ^ 62 := by rw [hg]; simp; omega
      refine Or.inl ⟨fun h2 => ?_, fun _ => ?_⟩
      · exfalso
        have h2 : ((addV C (vAt l k)).2 != 0 || ((addV C (vAt l k)).1.length : Int) != IntKind.i64.wrap ((C.length : Int) + 1)) = true := h2
        rw [hg, wr (by omega) (by omega)] at h2
        simp at h2
      refine Or.inl (.inl ⟨[], _, fun _ => Bad_fn (addV C (vAt l k)).1 nN name step, .inl ⟨[], _, fun _ => Bad_fn C (by omega) name step, ⟨fun h3 => ?_, fun _ => ?_⟩⟩⟩)
      · exfalso
        have h3 : ((decide (step < (vAt l k).step) || (name != (vAt l k).name)) && (Bad (addV C (vAt l k)).1 name step != Bad C name step)) = true := h3
        rw [hg] at h3
        dsimp only at h3
        rw [Bad_snoc] at h3
        by_cases hc : (vAt l k).step ≤ step ∧ (vAt l k).name = name
        · have e1 : decide (step < (vAt l k).step) = false := decide_eq_false (by omega)
          rw [e1, hc.2] at h3
          simp at h3
        · rw [if_neg hc] at h3
          simp at h3
      refine Or.inl (.inl ⟨[], _, Bad_fn (addV C (vAt l k)).1 nN (vAt l k).name (max step (vAt l k).step), .inl ⟨[], _, fun _ => Bad_fn (addV C (vAt l k)).1 nN (vAt l k).name (IntKind.i64.wrap ((vAt l k).step - 1)),
        .inl ⟨[], _, fun _ => Bad_fn C (by omega) (vAt l k).name (IntKind.i64.wrap ((vAt l k).step - 1)), ⟨fun h4 => ?_, fun _ => ?_⟩⟩⟩⟩)
      · exfalso
        have h4 : (Bad (addV C (vAt l k)).1 (vAt l k).name (max step (vAt l k).step) != (vAt l k).bad || (Bad (addV C (vAt l k)).1 (vAt l k).name (IntKind.i64.wrap ((vAt l k).step - 1)) != Bad C (vAt l k).name (IntKind.i64.wrap ((vAt l k).step - 1)))) = true := h4
        rw [hg, hw] at h4
        dsimp only at h4
        rw [Bad_snoc, Bad_snoc, if_pos ⟨by omega, rfl⟩, if_neg (by rintro ⟨h5, _⟩; omega)] at h4
        simp at h4
      · have eL : (vAt l k).step = lastOf (C ++ [vAt l k]) (C ++ [vAt l k]).length := by simp [lastOf]
        have eR : AOEq (.row 45 3 (C ++ [vAt l k]).length (rowsV (C ++ [vAt l k]))) (.row 45 3 (addV C (vAt l k)).1.length (rowsV (addV C (vAt l k)).1)) := by rw [hg]; exact AOEq.refl _
        exact ⟨(k + 1, C ++ [vAt l k]), [(0, 2)], ⟨by dsimp only; omega, by simp; omega, hok2⟩, by dsimp only; omega, rfl, rfl, rfl, rfl, rfl, ⟨⟨rfl, wr (by omega) (by omega)⟩, rfl, rfl, eL⟩, eR⟩
  · exact RetIs.b rfl
end Go.Proofs.Ytklmfkejgjhneaa
