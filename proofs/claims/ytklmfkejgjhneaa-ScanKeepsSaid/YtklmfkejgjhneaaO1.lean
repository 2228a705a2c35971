/-
  The law's arguments, a slice of verdicts and a verdict, as the engine sees them.
-/
import Derived.Test.YtklmfkejgjhneaaS1
import Derived.Test.YtklmfkejgjhneaaRows
import Derived.Test.YtklmfkejgjhneaaEng14
namespace Go.Proofs.Ytklmfkejgjhneaa
open Go.Eng Go.ChangeShapes Go.WideShapes Go.ChangeAt Go.RowKit Go.Deep

def Ver.val (n : Ver) : Nat → Value
  | 0 => .int .i64 n.name
  | 1 => .int .i64 n.step
  | _ => .bool n.bad
def Ver.wf (n : Ver) : Prop := (Lit.int .i64 n.name).wf = true
theorem cells45 : Try.prog.cellsOf 45 = 3 := by kernel_rfl
theorem cells3 : Try.prog.cellsOf 3 = 1 := by kernel_rfl
theorem cells4 : Try.prog.cellsOf 4 = 1 := by kernel_rfl

theorem gd {l : List Ver} {k : Nat} (h : k < l.length) : l.getD k dV = l[k] := by simp [List.getD_eq_getElem?_getD, h]
section
variable {H : Type} {enc : TypeId × Value → H}
set_option maxRecDepth 100000 in
theorem open_note {W : World} {n : Nat} {cs : List Value} {y : DataW H × List MemPlace} (hl : cs.length = 3) (h : DataW.trod enc Try.prog W 0 (fun _ => true) true n 45 cs = some y) :
    ∃ x : Ver, (∀ j, j < 3 → cs[j]? = some (x.val j)) ∧ x.wf := by
  obtain ⟨ys, n', _, hx, _, hlen, hg⟩ := DataW.trod_struct Try.underlying45 h
  match cs, hl with
  | [c0, c1, c2], _ =>
    have h0 : DataW.trod enc Try.prog W 0 (fun _ => true) true n' 3 (([c0, c1, c2].drop 0).take (Try.prog.cellsOf 3)) = ys[0]? := hg 0 _ rfl
    rw [cells3] at h0
    have h1 : DataW.trod enc Try.prog W 0 (fun _ => true) true n' 3 (([c0, c1, c2].drop 1).take (Try.prog.cellsOf 3)) = ys[1]? := hg 1 _ rfl
    rw [cells3] at h1
    have h4 : DataW.trod enc Try.prog W 0 (fun _ => true) true n' 4 (([c0, c1, c2].drop 2).take (Try.prog.cellsOf 4)) = ys[2]? := hg 2 _ rfl
    rw [cells4] at h4
    have hyl : ys.length = 3 := hlen
    match ys, hyl with
    | [y0, y1, y2], _ =>
      obtain ⟨z0, e0, _, hw⟩ := DataW.trod_int Try.underlying3 h0
      obtain ⟨z1, e1, _⟩ := DataW.trod_int Try.underlying3 h1
      obtain ⟨z4, e4, _⟩ := DataW.trod_bool Try.underlying4 h4
      simp at e0 e1 e4
      subst e0 e1 e4
      refine ⟨⟨z0, z1, z4⟩, fun j hj => ?_, hw⟩
      match j, hj with
      | 0, _ => rfl
      | 1, _ => rfl
      | 2, _ => rfl

set_option maxRecDepth 100000 in
theorem note_cells (W : World) (L : List AV) (x : Ver) (e : L = x.av) (j : Nat) (hj : j < L.length) : Rep0 (fun _ => False) W L[j] (x.val j) := by
  subst e
  have hj5 : j < 3 := hj
  match j, hj5 with
  | 0, _ => exact .i _ _
  | 1, _ => exact .i _ _
  | 2, _ => exact .b _
set_option maxRecDepth 100000 in
theorem open_notes {W : World} {base : Nat} {v : Value} {d : DataW H} {p : List MemPlace} (hv : Value.okWide Try.prog W .any base 43 v) (h : DataW.Trod enc Try.prog W 0 (fun _ => true) true 43 v d p) :
    ∃ l : List Ver, Rep0 (fun _ => False) W (.rs 3 l.length (rowsV l)) v ∧ (∀ x ∈ l, x.wf) ∧ (l = [] ∨ ∃ el sp, d = .slice el sp ∧ l.length = el.length) := by
  obtain ⟨fuel, h⟩ := h
  have hv2 : Cell.ok Try.prog W .any base 43 v := by
    have := hv
    unfold Value.okWide at this
    rw [Try.underlying43] at this
    dsimp only at this
    unfold Cell.okWide at this
    rw [Try.underlying43] at this
    cases v <;> exact this
  have hvs : ∃ a n c, v = .slice a n c := by
    have hv3 := hv2
    unfold Cell.ok at hv3
    rw [Try.underlying43] at hv3
    cases v <;> first | exact ⟨_, _, _, rfl⟩ | exact hv3.elim
  obtain ⟨va, vn, vc, rfl⟩ := hvs
  rcases open_slice Try.underlying43 h with ⟨hcs, _⟩ | ⟨a, len, cap, m, n, D, Pl, hcs, _, hl, hm, hmm, hx, hi⟩
  · simp [Value.cells] at hcs
    obtain ⟨rfl, rfl, rfl⟩ := hcs
    exact ⟨[], .rsnil 3 _, (fun x hx => by simp at hx), .inl rfl⟩
  · simp [Value.cells] at hcs
    obtain ⟨rfl, rfl, rfl⟩ := hcs
    unfold Cell.ok at hv2
    rw [Try.underlying43] at hv2
    obtain ⟨_, _, _, hspot, row, cells, hsh, _⟩ := hv2
    obtain ⟨ab, ao, asp⟩ := a
    have hspot : asp = none := hspot
    subst hspot
    have hlt : ab < W.heap.size := by
      unfold World.shape? at hsh
      cases hb : W.heap[ab]? with
      | none => rw [hb] at hsh; cases hsh
      | some o => exact (Array.getElem?_eq_some_iff.1 hb).1
    have hex : ∀ i, i < vn → ∃ x : Ver, (∀ j, j < 3 → W.cell? ⟨ab, ao + i * 3 + j, none⟩ = some (x.val j)) ∧ x.wf := by
      intro i hil
      have him : i < m := by simp only [if_true] at hmm; omega
      obtain ⟨cs', hc, ht⟩ := hi i him
      rw [cells45] at hc
      obtain ⟨_, hcl, hat⟩ := World.cells?_some hc
      obtain ⟨x, hx, hw⟩ := open_note hcl ht
      refine ⟨x, fun j hj => ?_, hw⟩
      have h1 := hat j hj
      rw [hx j hj, Go.Deep.add_add] at h1
      rw [← h1]
      congr 1
      unfold Addr.add
      split
      · rename_i h0
        have h1 : i = 0 := by omega
        have h2 : j = 0 := by omega
        subst h1; subst h2
        rfl
      · simp [Nat.add_assoc]
    have hF : ∃ F : Nat → Ver, ∀ i, i < vn → (∀ j, j < 3 → W.cell? ⟨ab, ao + i * 3 + j, none⟩ = some ((F i).val j)) ∧ (F i).wf :=
      ⟨fun i => if hi : i < vn then Classical.choose (hex i hi) else dV, fun i hi => by simp only [dif_pos hi]; exact Classical.choose_spec (hex i hi)⟩
    obtain ⟨F, hF⟩ := hF
    refine ⟨(List.range vn).map F, ?_, ?_, .inr ?_⟩
    rotate_left
    · intro x hx
      simp only [List.mem_map, List.mem_range] at hx
      obtain ⟨i, hi, rfl⟩ := hx
      exact (hF i hi).2
    · simp only [Prod.mk.injEq] at hx
      exact ⟨_, _, hx.1, by simp⟩
    have hlen : ((List.range vn).map F).length = vn := by simp
    have hget : ∀ k, k < vn → ((List.range vn).map F).getD k dV = F k := fun k hk => by
      rw [gd (by simpa using hk)]; simp
    rw [hlen]
    refine .rs 3 vn (rowsV ((List.range vn).map F)) ab ao vc (fun k j => (F k).val j) hl hm (fun h => h) hlt (fun k _ => rfl) (fun k j hk hj => (hF k hk).1 j hj) (fun k j _ hj => ?_) (fun k j hk hj => ?_)
    · match j, hj with
      | 0, _ => rfl
      | 1, _ => rfl
      | 2, _ => rfl
    · have e : rowsV ((List.range vn).map F) k = (F k).av := by simp only [rowsV, hget k hk]
      exact note_cells W _ _ e j hj
set_option maxRecDepth 100000 in
theorem open_one {W : World} {v : Value} {d : DataW H} {p : List MemPlace} (h : DataW.Trod enc Try.prog W 0 (fun _ => true) true 45 v d p) : ∃ x : Ver, Rep0 (fun _ => False) W (.ag x.av) v := by
  obtain ⟨fuel, h⟩ := h
  have hl : v.cells.toList.length = 3 := by
    obtain ⟨ys, n', _, hx, hl, hlen, hg⟩ := DataW.trod_struct Try.underlying45 h
    rw [cells45] at hl
    exact hl
  obtain ⟨x, hx, _⟩ := open_note hl h
  have hv : ∃ cs : List Value, v = .agg cs.toArray := by
    cases v <;> first | exact ⟨_, rfl⟩ | (simp [Value.cells] at hl; done)
  obtain ⟨cs, rfl⟩ := hv
  simp only [Value.cells] at hl hx
  refine ⟨x, .ag _ cs (by rw [hl]; rfl) fun j h1 h2 => ?_⟩
  have h3 := hx j (by omega)
  rw [List.getElem?_eq_getElem h2] at h3
  rw [Option.some.inj h3]
  exact note_cells W _ x rfl j h1
end
end Go.Proofs.Ytklmfkejgjhneaa
