/-
  Several texts in one: W3, W4, W5, W6, W7.
-/
import Derived.WalkSpells
import Derived.StillTactics
import Derived.OwnWalk
import Derived.Laws.Pointers
import Derived.Deep.RegionHeld3
import Derived.Deep.AppendLies
import Derived.Deep.DrawnRows
import Derived.Test.YtilhaifmfiobhaaMg13

section
/-
  What literals imply: the map of slices is built.
-/
namespace Go.Proofs.Ytilhaifmfiobhaa
open Go.Eng Go.RowKit

def vInt : Value → Int
  | .int _ q => q
  | _ => 0
theorem zero23 (w : World) : (zeroValue 23).run Try.prog w = .ok (.slice none 0 0) w := by kernel_rfl
theorem info3 : (Try.prog.info? 3).map (fun i => (i.zero, i.size, i.bytes)) = some (some (.int .i64 0), 1, 8) := by kernel_rfl
section
variable {w : World} {b : Nat} {L : List (Int × List Int)} {es : Array MapEntry} {clock : Nat}
/-- The look-up, in every world where the map's block is as it was. -/
theorem GM.look_run (h : GM w b 3 L es clock) (z : Int) : ∃ v, (∀ w2 : World, w2.heap[b]? = w.heap[b]? → (Instr.lookup 87 (.map (some b)) (.int .i64 z) false).run Try.prog w2 = .ok v w2) ∧ AtKey w b 3 L es z v := by
  obtain ⟨v, hrun, h1, h2⟩ := h.look Try.underlying3 Try.underlying87 (zero23 w) z
  refine ⟨v, fun w2 hw2 => ?_, h1, h2⟩
  have hp2 : w2.heap[b]? = some (.map es clock) := hw2.trans h.hp
  rcases run_find_KV (P := Try.prog) (w := w2) (kv_int Try.underlying3 z) es.toList (h.kv Try.underlying3) with ⟨hfind, hno⟩ | ⟨j, e, hfind, he, hek⟩
  · rcases h2 with ⟨rfl, _⟩ | ⟨i, hi, hk, _⟩
    · simp [Instr.lookup, run_underlying Try.underlying87, Go.MapKept.run_getObj_map hp2, run_check_KV es.isEmpty (kv_int Try.underlying3 z), hfind]
    · exact absurd hk (hno _ (by simp))
  · have hj : j < es.size := by simpa using (List.getElem?_eq_some_iff.1 he).1
    have hje : es[j] = e := by
      have := (List.getElem?_eq_some_iff.1 he).2
      simpa using this
    rcases h2 with ⟨rfl, _, hno⟩ | ⟨i, hi, hk, rfl, _⟩
    · exact absurd (by rw [hje]; exact hek) (hno j hj)
    · have hij : i = j := by
        have e2 : es[j].key = .int .i64 z := by rw [hje]; exact hek
        rcases Nat.lt_trichotomy i j with hlt | heq | hlt
        · exact absurd (hk.trans e2.symm) (h.ok.one i j hlt hi hj)
        · exact heq
        · exact absurd (e2.trans hk.symm) (h.ok.one j i hlt hj hi)
      subst hij
      simp [Instr.lookup, run_underlying Try.underlying87, Go.MapKept.run_getObj_map hp2, run_check_KV es.isEmpty (kv_int Try.underlying3 z), hfind, hje]
end

theorem grownBy_drew {x y : World} {r : Option Nat} (h : x.grownBy y r) : x.grownBy y.drew r := ⟨h.os, h.tape, h.output, h.size, h.block⟩
theorem drew_grownBy {x y : World} {r : Option Nat} (h : x.drew.grownBy y r) : x.grownBy y r := ⟨h.os, h.tape, h.output, h.size, h.block⟩
theorem own_ne {x : World} {base n : Nat} {v : Value} {xs : List Value} {q : Nat} {cs : Array Value} {fr : Nat × Nat} (h : x.ownsRow base 3 1 v n xs) (hq : x.heap[q]? = some (.cells cs 25 fr)) : some q ≠ v.ownBlock := by
  intro e
  rcases h.2 with ⟨rfl, _⟩ | ⟨g, cap, cur, rfl, _, hh, _⟩
  · cases e
  · obtain rfl : q = g := by simpa [Value.ownBlock] using e
    rw [hh] at hq
    simp at hq
theorem group_short (l : List Cl) (k : Nat) (hl : l.length ≤ 4000) (z : Int) : ((mget (groupL (l.take k)) z).getD []).length ≤ 100000 := by
  rw [groupL_get]
  have := succL_len (l.take k) z
  have : (l.take k).length ≤ l.length := by rw [List.length_take]; omega
  omega
theorem gAdd_short (l : List Cl) (k : Nat) (hl : l.length ≤ 4000) (x y z : Int) : ((mget (gAdd (groupL (l.take k)) x y) z).getD []).length ≤ 100000 := by
  rw [gAdd_get, groupL_get, List.length_append]
  have := succL_len (l.take k) z
  have : (l.take k).length ≤ l.length := by rw [List.length_take]; omega
  split <;> simp <;> omega
theorem below_grown {B : Nat} {w x y : World} {r : Option Nat} (h : Below B w x) (hB : B ≤ x.heap.size) (hg : x.grownBy y r) (hr : ∀ g, r = some g → B ≤ g) : Below B w y :=
  ⟨hg.os.trans h.os, hg.tape.trans h.tape, hg.output.trans h.output, Nat.le_trans h.size hg.size, fun k hk => (hg.block k (Nat.lt_of_lt_of_le hk hB) (fun e => by have := hr k e.symm; omega)).trans (h.block k hk)⟩
theorem owned_ge {x : World} {base n : Nat} {v : Value} {xs : List Value} (h : x.ownsRow (base + 1) 3 1 v n xs) : ∀ g, v.ownBlock = some g → base ≤ g := fun g hg => by have := (h.lt g hg).1; omega
/-- One number appended to such a slice, at a step of a region. -/
theorem step_app_gm {ops : Array Oper} {o : Oper} {a : Act} {K : Act → World → Prop} {Q : Exit → Act → World → Prop} {E : Prop} {W : World} {B : Nat} {v : Value} {zs : List Int} (hgd : o.guard = none) (s x : Operand)
    (ho : o.op = .call { callee := .builtin .append, args := #[s, x], argTypes := #[23, 23] }) (hs : a.eval s = v) (hown : W.ownsRow (B + 1) 3 1 v zs.length (vI zs)) (q : Nat) (y : Int)
    (hx : a.eval x = .slice (some ⟨q, 0, none⟩) 1 1) (hq : W.heap[q]? = some (.cells #[.int .i64 y] 3 (0, 0))) (hlen : zs.length ≤ 100000) (hB : B + 1 ≤ W.heap.size)
    (hK : ∀ v' w', w'.ownsRow (B + 1) 3 1 v' (zs ++ [y]).length (vI (zs ++ [y])) → W.grownBy w' v.ownBlock → (v'.ownBlock = v.ownBlock ∨ ∃ g, v'.ownBlock = some g ∧ W.heap.size ≤ g) → K (a.put o.dst v') w') :
    if Region.wanted o (yielded ops a.tmps) = true then Oper.wp Try.prog o a W K Q else E := by
  obtain ⟨i0, hi, hz0, hz1, hz2⟩ := info_parts info3
  have hw : Region.wanted o (yielded ops a.tmps) = true := by simp [Region.wanted, hgd]
  rw [if_pos hw]
  obtain ⟨v', w', hr, h2, h3, h4, h5⟩ := run_append_own_at (P := Try.prog) W (B + 1) 23 o.type 3 i0 (.int .i64 0) 1 8 Try.underlying23 hi hz0 hz1 hz2 rfl (by decide) v zs.length (vI zs) hown ⟨q, 0, none⟩ 1 1 [.int .i64 y] rfl
    (World.news_of_block (cs := #[.int .i64 y]) (t := 3) (fr := (0, 0)) hq) (by simp [Value.oneCell']) (by unfold maxLen; omega) (by omega) hB
  unfold Oper.wp
  simp [execOp, ho, resolve, invoke, builtin, hs, hx, hr, Result.andThen]
  refine hK v' w' ?_ h3 (h5.imp id fun h => ⟨_, h, Nat.le_refl _⟩)
  have e1 : (zs ++ [y]).length = zs.length + 1 := by simp
  have e2 : vI (zs ++ [y]) = vI zs ++ [.int .i64 y] := by simp [vI]
  rw [e1, e2]
  exact h2

set_option maxRecDepth 100000 in
set_option maxHeartbeats 3200000 in
theorem graph_calls (g off cap : Nat) (l : List Cl) (w : World) (hr : RightC 400 l) (hl : l.length ≤ 4000) (hg : g < w.heap.size)
    (hc : ∀ k, k < l.length → w.cell? ⟨g, off + k * 2, none⟩ = some (.int .i64 (l.getD k dC).a) ∧ w.cell? ⟨g, off + k * 2 + 1, none⟩ = some (.int .i64 (l.getD k dC).b)) :
    Calls Try.prog 71 #[.slice (some ⟨g, off, none⟩) l.length cap] w fun e w' => e = .returned (.map (some w.heap.size)) ∧ ∃ es clock, GM w' w.heap.size 3 (groupL l) es clock ∧ Below w.heap.size w w' := by
  have hmm := @run_makeMap Try.prog
  obtain ⟨i0, hi, hz0, hz1, hz2⟩ := info_parts info3
  go_enter Try.func71, Try.ntmps71
  go_wp2
  go_loopw [9] (fun i wr => ∃ k : Nat, k ≤ l.length ∧ i = .int .i64 k ∧ ∃ es clock, GM wr w.heap.size 3 (groupL (l.take k)) es clock ∧ Below w.heap.size w wr)
    (fun i _ => l.length - (vInt i).toNat)
  case atStart => exact ⟨0, Nat.zero_le _, rfl, #[], 0, gm_made w 3, (Below.refl _ _).alloc (Nat.le_refl _) _⟩
  case round =>
    obtain ⟨k, hk, rfl, es, clock, hgm, hnx⟩ := hrel
    have hca : k < l.length → wr.cell? ⟨g, off + k * 2, none⟩ = some (.int .i64 (l.getD k dC).a) := fun h => (hnx.cell (by exact hg)).trans (hc k h).1
    have hcb : k < l.length → wr.cell? ⟨g, off + k * 2 + 1, none⟩ = some (.int .i64 (l.getD k dC).b) := fun h => (hnx.cell (by exact hg)).trans (hc k h).2
    have hrk : k < l.length → (0 ≤ (l.getD k dC).a ∧ (l.getD k dC).a < 800) ∧ (0 ≤ (l.getD k dC).b ∧ (l.getD k dC).b < 800) := fun h => hr _ (getD_memA dC h)
    obtain ⟨c, hcl⟩ : ∃ c, l.getD k dC = c := ⟨_, rfl⟩
    rw [hcl] at hca hcb hrk
    go_wp2_with fail
    · have hlt : k < l.length := by assumption
      obtain ⟨hra, hrb⟩ := hrk hlt
      have hgm0 := hgm.alloc (.cells #[.int .i64 c.a, .int .i64 c.b] 25)
      obtain ⟨v, hlook, hat⟩ := hgm0.look_run (bits BinOp.xor IntKind.i64 c.a 1)
      have hB1 : w.heap.size < (wr.alloc (.cells #[.int .i64 c.a, .int .i64 c.b] 25)).heap.size := hgm0.lt
      have hB2 : w.heap.size < wr.heap.size := hgm.lt
      have hn1 := group_short l k hl (bits BinOp.xor IntKind.i64 c.a 1)
      have hbA : (wr.alloc (.cells #[.int .i64 c.a, .int .i64 c.b] 25)).heap[wr.heap.size]? = some (.cells #[.int .i64 c.a, .int .i64 c.b] 25 (0, 0)) := heap_alloc_new wr _
      have hgrw : ∀ (x y : World), (wr.alloc (.cells #[.int .i64 c.a, .int .i64 c.b] 25)).grownBy x v.ownBlock → x.grownBy y v.ownBlock → (wr.alloc (.cells #[.int .i64 c.a, .int .i64 c.b] 25)).grownBy y v.ownBlock := fun x y h1 h2 => h1.trans h2
      have hlocw : ∀ (x : World) (u : Value), x.heap.size = wr.heap.size + 2 → (u.ownBlock = v.ownBlock ∨ ∃ g, u.ownBlock = some g ∧ x.heap.size ≤ g) → (u.ownBlock = v.ownBlock ∨ ∃ g, u.ownBlock = some g ∧ (wr.alloc (.cells #[.int .i64 c.a, .int .i64 c.b] 25)).heap.size ≤ g) := fun x u hx h => h.imp id fun ⟨g, h1, h2⟩ => ⟨g, h1, by simp; omega⟩
      have hsz : ∀ (x y : World), x.heap.size = wr.heap.size + 2 → x.grownBy y v.ownBlock → wr.heap.size < y.heap.size := fun x y h1 h2 => by have := h2.size; omega
      have hnewb : ∀ x : World, x.heap.size = wr.heap.size + 1 → (x.alloc (.cells #[.int .i64 c.b] 3)).heap[wr.heap.size + 1]? = some (.cells #[.int .i64 c.b] 3 (0, 0)) := fun x hx => by rw [← hx]; exact heap_alloc_new x _
      have hbase : ∀ x : World, x.heap.size = wr.heap.size + 2 → w.heap.size + 1 ≤ x.heap.size := fun x hx => by omega
      have hfar : some wr.heap.size ≠ v.ownBlock := own_ne hat.1 hbA
      have hfar2 : some wr.heap.size ≠ some w.heap.size := fun e => by
        have := Option.some.inj e
        omega
      have hlk1 := hlook (wr.alloc (.cells #[.int .i64 c.a, .int .i64 c.b] 25)).drew rfl
      have hlk2 := hlook ((wr.alloc (.cells #[.int .i64 c.a, .int .i64 c.b] 25)).alloc (.cells #[.int .i64 c.b] 3)).drew (Below.heap_alloc _ _ _ hB1)
      go_region_held3 (fun w' => w'.cell? ⟨wr.heap.size, 0, none⟩ = some (.int .i64 c.a) ∧ w'.cell? ⟨wr.heap.size, 1, none⟩ = some (.int .i64 c.b)) (first
        | go_keep
        | (go_split_ands; exact ⟨by rw [hgrow.cell_far _ (by simp; omega) hfar]; assumption, by rw [hgrow.cell_far _ (by simp; omega) hfar]; assumption⟩)
        | (go_split_ands; exact ⟨by rw [hgr2.cell_far _ (by assumption) hfar2]; assumption, by rw [hgr2.cell_far _ (by assumption) hfar2]; assumption⟩))
        ((refine step_app_gm (B := w.heap.size) (v := v) (zs := (mget (groupL (l.take k)) (bits BinOp.xor IntKind.i64 c.a 1)).getD []) (by rfl) _ _ (by rfl) (by rfl) (by first | exact (hat.1.alloc _).drew | exact ((hat.1.drew).alloc _).drew | exact (hat.1.drew).alloc _) (wr.heap.size + 1) c.b (by rfl) (hnewb _ (by simp)) hn1 (hbase _ (by simp)) ?_; intro v1 w1 hown1 hgrow hloc; have hsz1 := hsz _ _ (by simp) hgrow; obtain ⟨w2, es2, cl2, hset, hgm2, hgr2⟩ := hgm0.set Try.underlying3 Try.underlying87 hat.2 (hgrw _ _ (by first | exact grownBy_drew (World.grownBy_alloc _ _ _) | exact grownBy_drew (drew_grownBy (World.grownBy_alloc _ _ _)) | exact drew_grownBy (World.grownBy_alloc _ _ _)) hgrow) hown1 (hlocw _ _ (by simp) hloc)))
      all_goals (
        have hbA2 : w2.heap[wr.heap.size]? = some (.cells #[.int .i64 c.a, .int .i64 c.b] 25 (0, 0)) :=
          (hgr2.block _ hsz1 hfar2).trans ((hgrow.block _ (by simp; omega) hfar).trans ((Below.heap_alloc _ _ _ (by simp)).trans hbA))
        have hsz2 : wr.heap.size < w2.heap.size := Nat.lt_of_lt_of_le hsz1 hgr2.size
        have hall := hgrw _ _ (by first | exact grownBy_drew (World.grownBy_alloc _ _ _) | exact grownBy_drew (drew_grownBy (World.grownBy_alloc _ _ _)) | exact drew_grownBy (World.grownBy_alloc _ _ _)) hgrow
        clear hlk1 hlk2 hlook hset hnewb hbase hlocw hgrw hsz
        have hcA : w2.cell? ⟨wr.heap.size, 0, none⟩ = some (.int .i64 c.a) := by rw [cell_of_row w2 _ 0 _ _ _ hbA2]; rfl
        have hcB : w2.cell? ⟨wr.heap.size, 1, none⟩ = some (.int .i64 c.b) := by rw [cell_of_row w2 _ 1 _ _ _ hbA2]; rfl
        have hltB : w.heap.size < w2.heap.size := hgm2.lt
        change GM w2 w.heap.size 3 (gAdd (groupL (l.take k)) (bits BinOp.xor IntKind.i64 c.a 1) c.b) es2 cl2 at hgm2
        have hbel2 : Below w.heap.size w w2 := below_grown (below_grown (hnx.alloc hnx.size _) (by omega) hall (owned_ge hat.1)) (by omega) hgr2 (fun g e => by cases e; exact Nat.le_refl _)
        obtain ⟨u, hlook4, hat4⟩ := hgm2.look_run (bits BinOp.xor IntKind.i64 c.b 1)
        have hn4 := gAdd_short l k hl (bits BinOp.xor IntKind.i64 c.a 1) c.b (bits BinOp.xor IntKind.i64 c.b 1)
        have hfar4 : some wr.heap.size ≠ u.ownBlock := own_ne hat4.1 hbA2
        have hlk3 := hlook4 w2.drew rfl
        have hlk4 := hlook4 (w2.alloc (.cells #[.int .i64 c.a] 3)).drew (Below.heap_alloc _ _ _ hltB)
        have hgrw4 : ∀ (x y : World), w2.grownBy x u.ownBlock → x.grownBy y u.ownBlock → w2.grownBy y u.ownBlock := fun x y h1 h2 => h1.trans h2
        have hlocw4 : ∀ (x : World) (t : Value), x.heap.size = w2.heap.size + 1 → (t.ownBlock = u.ownBlock ∨ ∃ g, t.ownBlock = some g ∧ x.heap.size ≤ g) → (t.ownBlock = u.ownBlock ∨ ∃ g, t.ownBlock = some g ∧ w2.heap.size ≤ g) := fun x t hx h => h.imp id fun ⟨g, h1, h2⟩ => ⟨g, h1, by omega⟩
        have hsz4 : ∀ (x y : World), x.heap.size = w2.heap.size + 1 → x.grownBy y u.ownBlock → wr.heap.size < y.heap.size := fun x y h1 h2 => by have := h2.size; omega
        have hnewb4 : ∀ x : World, x.heap.size = w2.heap.size → (x.alloc (.cells #[.int .i64 c.a] 3)).heap[w2.heap.size]? = some (.cells #[.int .i64 c.a] 3 (0, 0)) := fun x hx => by rw [← hx]; exact heap_alloc_new x _
        have hbase4 : ∀ x : World, x.heap.size = w2.heap.size + 1 → w.heap.size + 1 ≤ x.heap.size := fun x hx => by omega
        clear hgm0 hlt hca hcb hrk hc
        go_wp2_with fail
        go_region_held3 (fun w' => w'.cell? ⟨wr.heap.size, 0, none⟩ = some (.int .i64 c.a) ∧ w'.cell? ⟨wr.heap.size, 1, none⟩ = some (.int .i64 c.b)) (first
          | go_keep
          | (go_split_ands; exact ⟨by rw [hgrow3.cell_far _ (by simp; omega) hfar4]; assumption, by rw [hgrow3.cell_far _ (by simp; omega) hfar4]; assumption⟩)
          | (go_split_ands; exact ⟨by rw [hgr4.cell_far _ (by assumption) hfar2]; assumption, by rw [hgr4.cell_far _ (by assumption) hfar2]; assumption⟩))
          ((refine step_app_gm (B := w.heap.size) (v := u) (zs := (mget (gAdd (groupL (l.take k)) (bits BinOp.xor IntKind.i64 c.a 1) c.b) (bits BinOp.xor IntKind.i64 c.b 1)).getD []) (by rfl) _ _ (by rfl) (by rfl) (by first | exact (hat4.1.alloc _).drew | exact ((hat4.1.drew).alloc _).drew | exact (hat4.1.drew).alloc _) w2.heap.size c.a (by rfl) (hnewb4 _ (by simp)) hn4 (hbase4 _ (by simp)) ?_; intro v3 w3 hown3 hgrow3 hloc3; have hsz3 := hsz4 _ _ (by simp) hgrow3; obtain ⟨w4, es4, cl4, hset4, hgm4, hgr4⟩ := hgm2.set Try.underlying3 Try.underlying87 hat4.2 (hgrw4 _ _ (by first | exact grownBy_drew (World.grownBy_alloc _ _ _) | exact grownBy_drew (drew_grownBy (World.grownBy_alloc _ _ _)) | exact drew_grownBy (World.grownBy_alloc _ _ _)) hgrow3) hown3 (hlocw4 _ _ (by simp) hloc3)))
        all_goals (
          have hall3 := hgrw4 _ _ (by first | exact grownBy_drew (World.grownBy_alloc _ _ _) | exact grownBy_drew (drew_grownBy (World.grownBy_alloc _ _ _)) | exact drew_grownBy (World.grownBy_alloc _ _ _)) hgrow3
          have hsz5 : wr.heap.size < w4.heap.size := Nat.lt_of_lt_of_le hsz3 hgr4.size
          have hbel4 : Below w.heap.size w w4 := below_grown (below_grown hbel2 (by omega) hall3 (owned_ge hat4.1)) (by omega) hgr4 (fun g e => by cases e; exact Nat.le_refl _)
          clear hlk3 hlk4 hlook4 hset4 hnewb4 hbase4 hlocw4 hgrw4 hsz4
          go_wp2
          go_roundw
          case rel =>
            refine ⟨k + 1, by omega, by go_num, es4, cl4, ?_, hbel4⟩
            have e1 : bits BinOp.xor IntKind.i64 c.a 1 = opp c.a := bits_opp hra.1 (by omega)
            have e2 : bits BinOp.xor IntKind.i64 c.b 1 = opp c.b := bits_opp hrb.1 (by omega)
            rw [e1, e2] at hgm4
            rw [groupL_snoc l k (by omega), hcl]
            exact hgm4
          case measure => simp [vInt]; omega))
    · have hk2 : k = l.length := by omega
      subst hk2
      go_ret
      rw [List.take_length] at hgm
      exact ⟨rfl, es, clock, hgm, hnx⟩
end Go.Proofs.Ytilhaifmfiobhaa
end

section
/-
  What literals imply, as a contract.
-/
namespace Go.Proofs.Ytilhaifmfiobhaa
open Go.Eng Go.RowKit

set_option maxRecDepth 100000 in
theorem graph_none (p : Option Addr) (cap : Nat) (w : World) : Calls Try.prog 71 #[.slice p 0 cap] w fun e w' => e = .returned (.map (some w.heap.size)) ∧ ∃ es clock, GM w' w.heap.size 3 [] es clock ∧ Below w.heap.size w w' := by
  have hmm := @run_makeMap Try.prog
  go_enter Try.func71, Try.ntmps71
  go_wp2
  refine wp_loop_rounds 1 ?_
  rw [rounds_succ]
  go_wp2
  go_ret
  exact ⟨rfl, #[], 0, gm_made w 3, (Below.refl _ _).alloc (Nat.le_refl _) _⟩

theorem graph_fn (l : List Cl) (hr : RightC 400 l) (hl : l.length ≤ 4000) : Ctr Try.prog 71 [.rs 2 l.length (rowsC l)] [] (gM l) := by
  refine ⟨⟨_, Try.func71, by kernel_rfl, rfl⟩, fun w vs hlen hrep => ?_⟩
  obtain ⟨v, rfl⟩ : ∃ v, vs = [v] := by
    match vs, hlen with
    | [v], _ => exact ⟨v, rfl⟩
  have hv := hrep 0 (by simp) (by simp)
  simp only [List.getElem_cons_zero] at hv
  have done : ∀ (e : Ending) (w' : World), (e = .returned (.map (some w.heap.size)) ∧ ∃ es clock, GM w' w.heap.size 3 (groupL l) es clock ∧ Below w.heap.size w w') →
      ∃ (v : Value) (β : Bd), e = .returned v ∧ Below w.heap.size w w' ∧ News β ([] : List AO).length (FX (fun g => g < w.heap.size) β 0 []) w.heap.size w' 0 [] ∧ Rep β ([] : List AO).length (FX (fun g => g < w.heap.size) β 0 []) w' (gM l) v := by
    rintro e w' ⟨rfl, es, clock, hgm, hb⟩
    refine ⟨_, ⟨fun _ => 0, fun _ => undef⟩, rfl, hb, ⟨fun j o h => by simp at h, fun j o g h => by simp at h, fun j j' o o' g h => by simp at h⟩, .pure _ _ (hgm.rm fun g hg hF => ?_)⟩
    have := FX_nil hF
    omega
  generalize hL : l.length = n at hv
  cases hv with
  | rsnil =>
    obtain rfl : l = [] := List.eq_nil_of_length_eq_zero hL
    exact (graph_none none 0 w).mono fun e w' h => done e w' h
  | rsz _ _ a =>
    obtain rfl : l = [] := List.eq_nil_of_length_eq_zero hL
    exact (graph_none (some a) 0 w).mono fun e w' h => done e w' h
  | rs _ _ _ g off cap vs hn hm hF hg hlen2 hc h1 hh =>
    subst hL
    refine (graph_calls g off cap l w hr hl hg fun k hk => ?_).mono fun e w' h => done e w' h
    have ha := hh k 0 hk (by show 0 < 2; decide)
    have hb := hh k 1 hk (by show 1 < 2; decide)
    have ca := hc k 0 hk (by decide)
    have cb := hc k 1 hk (by decide)
    have key : ∀ (x : Int) (u : Value), Rep0 (fun _ => False) w (.i .i64 x) u → u = .int .i64 x := fun x u h => by
      cases h
      rfl
    have ea : vs k 0 = .int .i64 (l.getD k dC).a := key _ _ ha
    have eb : vs k 1 = .int .i64 (l.getD k dC).b := key _ _ hb
    rw [ea] at ca
    rw [eb] at cb
    exact ⟨ca, cb⟩
end Go.Proofs.Ytilhaifmfiobhaa
end

section
/-
  What one literal implies is added to a set: the closure that calls itself.
-/
namespace Go.Proofs.Ytilhaifmfiobhaa
open Go.Eng

/-- The cells that the closure has captured, and the set. -/
def addIn (l : List Cl) (S : List Int) (fine : Bool) : List AO := [.cells 117 [.mo 4], .cells 4 [.b fine], .cells 87 [gM l], .cells 137 [.fn 128 [.p 0 0, .p 1 0, .p 2 0, .p 3 0]], setO S]
/-- What adding literals does. -/
structure AddS (l : List Cl) (S : List Int) (fine : Bool) (lits : List Int) (y : List Int × Bool) : Prop where
  ad : Adds l S y.1 lits
  nd : y.1.Nodup
  rg : ∀ x ∈ y.1, 0 ≤ x ∧ x < 800
  fl : y.2 = true ↔ fine = true ∧ ¬ Clash S y.1
theorem Adds.none {l : List Cl} {S : List Int} {x : Int} (h : x ∈ S) : Adds l S S [x] :=
  ⟨fun _ h => h, fun y hy => by rw [List.mem_singleton.1 hy]; exact h, fun y hy hn => absurd hy hn, fun y hy hn => absurd hy hn⟩
/-- A new literal, and all that it implies. -/
theorem Adds.node {l : List Cl} {S T : List Int} {x : Int} (hx : x ∉ S) (h : Adds l (S ++ [x]) T (succL l x)) : Adds l S T [x] := by
  refine ⟨fun y hy => h.sub y (List.mem_append_left _ hy), fun y hy => ?_, fun y hy hn z e => ?_, fun y hy hn => ?_⟩
  · rw [List.mem_singleton.1 hy]
    exact h.sub x (by simp)
  · by_cases hyx : y = x
    · subst hyx
      exact h.root z e
    · exact h.cl y hy (by simp [hn, hyx]) z e
  · by_cases hyx : y = x
    · subst hyx
      exact ⟨y, by simp, .refl _⟩
    · obtain ⟨r, hr, h2⟩ := h.fr y hy (by simp [hn, hyx])
      exact ⟨x, by simp, (Rc.step (.refl _) hr).trans h2⟩
theorem clash_one {S : List Int} {x : Int} (hx : x ∉ S) : Clash S (S ++ [x]) ↔ opp x ∈ S ++ [x] := by
  constructor
  · rintro ⟨y, hy, hn, ho⟩
    rcases List.mem_append.1 hy with hy | hy
    · exact absurd hy hn
    · rw [List.mem_singleton.1 hy] at ho; exact ho
  · intro ho
    exact ⟨x, by simp, hx, ho⟩
theorem set_short {S : List Int} (hn : S.Nodup) (hr : ∀ x ∈ S, 0 ≤ x ∧ x < 800) : S.length ≤ 800 := nodup_lenX (m := 800) hn fun x hx => hr x hx
theorem snoc_set {S : List Int} {x : Int} (hn : S.Nodup) (hr : ∀ x ∈ S, 0 ≤ x ∧ x < 800) (hx : 0 ≤ x ∧ x < 800) (hnx : x ∉ S) : (S ++ [x]).Nodup ∧ (∀ y ∈ S ++ [x], 0 ≤ y ∧ y < 800) := by
  have := ins_nodup (k := x) hn
  rw [ins_new hnx] at this
  refine ⟨this, fun y hy => ?_⟩
  rcases List.mem_append.1 hy with hy | hy
  · exact hr y hy
  · rw [List.mem_singleton.1 hy]; exact hx
theorem adds_snoc {l : List Cl} {S T U : List Int} {k : Nat} {o : List Int} (hk : k < o.length) (h1 : Adds l S T (o.take k)) (h2 : Adds l T U [o.getD k 0]) : Adds l S U (o.take (k + 1)) := by
  have := h1.trans h2
  have e : o.take (k + 1) = o.take k ++ [o.getD k 0] := by rw [List.take_succ_eq_append_getElem hk]; simp [List.getD, hk]
  rw [e]
  exact this
/-- What adding several literals does, each after the other. -/
structure AddL (l : List Cl) (S : List Int) (fine : Bool) (lits : List Int) (y : List Int × Bool) : Prop where
  ad : Adds l S y.1 lits
  nd : y.1.Nodup
  rg : ∀ x ∈ y.1, 0 ≤ x ∧ x < 800
  fl : y.2 = true ↔ fine = true ∧ ¬ Clash S y.1
theorem AddL.snoc {l : List Cl} {S : List Int} {fine : Bool} {k : Nat} {o T : List Int} {fn : Bool} {y : List Int × Bool} (hk : k < o.length) (h1 : AddL l S fine (o.take k) (T, fn)) (h2 : AddS l T fn [o.getD k 0] y) : AddL l S fine (o.take (k + 1)) y :=
  ⟨adds_snoc hk h1.ad h2.ad, h2.nd, h2.rg, by rw [h2.fl, h1.fl, clash_trans h1.ad.sub h2.ad.sub]; constructor <;> intro h <;> simp_all⟩
theorem AddL.node {l : List Cl} {S : List Int} {fine : Bool} {x : Int} (hx : x ∉ S) {y : List Int × Bool} (h : AddL l (S ++ [x]) (fine && !decide (opp x ∈ S ++ [x])) (succL l x) y) : AddS l S fine [x] y :=
  ⟨Adds.node hx h.ad, h.nd, h.rg, by
    rw [h.fl, clash_trans (fun a ha => List.mem_append_left _ ha) h.ad.sub, clash_one hx]
    rw [Bool.and_eq_true, Bool.not_eq_true', decide_eq_false_iff_not]
    constructor
    · rintro ⟨⟨a, b⟩, c⟩
      exact ⟨a, fun h => h.elim b c⟩
    · rintro ⟨a, b⟩
      exact ⟨⟨a, fun h => b (.inl h)⟩, fun h => b (.inr h)⟩⟩
theorem sub_len : ∀ {l m : List Int}, l.Nodup → (∀ x ∈ l, x ∈ m) → l.length ≤ m.length
  | [], m, _, _ => by simp
  | a :: r, m, h, hs => by
    rw [List.nodup_cons] at h
    have := sub_len (m := m.erase a) h.2 fun x hx => (List.mem_erase_of_ne (fun e : x = a => h.1 (by rw [← e]; exact hx))).2 (hs x (by simp [hx]))
    rw [List.length_erase_of_mem (hs a (by simp))] at this
    have h2 : 0 < m.length := List.length_pos_of_mem (hs a (by simp))
    rw [List.length_cons]
    omega
theorem succL_rg {n : Int} {l : List Cl} (hr : RightC n l) (x : Int) : ∀ y ∈ succL l x, 0 ≤ y ∧ y < 2 * n := by
  intro y hy
  obtain ⟨c, hc, h⟩ := Ed_iff.1 (show Ed l x y from hy)
  have := hr c hc
  rcases h with ⟨_, rfl⟩ | ⟨_, rfl⟩
  · exact this.2
  · exact this.1
theorem AddL.none {l : List Cl} {S : List Int} {fine : Bool} (hn : S.Nodup) (hr : ∀ x ∈ S, 0 ≤ x ∧ x < 800) : AddL l S fine [] (S, fine) :=
  ⟨Adds.refl l S, hn, hr, by simp [not_clash_self]⟩
set_option maxRecDepth 20000 in
set_option maxHeartbeats 4000000 in
theorem add_fn (l : List Cl) (hr : RightC 400 l) (hl : l.length ≤ 4000) : ∀ (m : Nat) (S : List Int) (fine : Bool) (lit : Int), S.Nodup → (∀ x ∈ S, 0 ≤ x ∧ x < 800) → 0 ≤ lit ∧ lit < 800 → 800 - S.length = m →
    CtrM Try.prog 128 true (addIn l S fine) [.i .i64 lit, .p 0 0, .p 1 0, .p 2 0, .p 3 0] (AddS l S fine [lit]) (fun y => addIn l y.1 y.2) (fun _ => []) (fun _ => .tup []) := by
  intro m
  induction m using Nat.strongRecOn with
  | _ m ih =>
  intro S fine lit hn hrg hlit hm
  have hS := set_short hn hrg
  refine fn_of_execM tabOk Try.func128 (by kernel_rfl) rfl (N := Try.f128.ntmps) rfl (res := []) rfl true false (addIn l S fine) _ _ _ _ rfl (fun h => by cases h) [] ?_
  repeat refine Or.inl ?_
  refine ⟨_, _, ⟨fun _ _ => rfl, rfl, lookOk_set S lit⟩, ?_⟩
  refine ⟨fun h => ?_, fun h => ?_⟩
  · have h : decide (lit ∈ S) = true := h
    rw [decide_eq_true_eq] at h
    exact ⟨⟨(S, fine), [], ⟨Adds.none h, hn, hrg, by simp [not_clash_self]⟩, ⟨⟨⟨rfl, rfl, rfl⟩, trivial⟩, ⟨⟨rfl, rfl, rfl, ⟨rfl, AVEq.refl _⟩⟩, ⟨rfl, rfl, rfl, ⟨rfl, AVEq.refl _⟩⟩, ⟨rfl, rfl, rfl, ⟨rfl, AVEq.refl _⟩⟩, ⟨rfl, rfl, rfl, ⟨rfl, AVEq.refl _⟩⟩, ⟨rfl, rfl, trivial, ⟨rfl, rfl, fun _ _ => ⟨rfl, rfl, rfl⟩⟩⟩, trivial⟩, rfl⟩, rfl, fun h => by cases h⟩⟩
  have h : decide (lit ∈ S) = false := h
  rw [decide_eq_false_iff_not] at h
  obtain ⟨hn1, hrg1⟩ := snoc_set hn hrg hlit h
  have hS1 := set_short hn1 hrg1
  rw [List.length_append] at hS1
  have hS1 : S.length + 1 ≤ 800 := hS1
  refine ⟨_, _, _, _, _, ⟨fun _ _ => rfl, rfl, updOk_set S lit⟩, ?_⟩
  rw [ins_new h]
  have hlk : LookOk (S ++ [lit]).length (fun i => .i .i64 ((S ++ [lit]).getD i 0)) (fun _ => .b true) (.i .i64 (bitsI BinOp.xor IntKind.i64 lit 1)) (.b (decide (opp lit ∈ S ++ [lit]))) (.b false) (decide (opp lit ∈ S ++ [lit])) := by
    rw [bits_opp hlit.1 (by omega)]
    exact lookOk_set (S ++ [lit]) (opp lit)
  refine ⟨_, _, ⟨fun _ => ⟨fun _ _ => rfl, rfl, hlk⟩, ?_⟩⟩
  refine ⟨_, _, ⟨fun _ _ => rfl, rfl, lookOk_g l lit⟩, ?_⟩
  have hsl := succL_len l lit
  refine ⟨[], Nat × (List Int × Bool), fun x => x.1 ≤ (succL l lit).length ∧ AddL l (S ++ [lit]) (fine && !decide (opp lit ∈ S ++ [lit])) ((succL l lit).take x.1) x.2, fun x => [⟨25, [], .i .i64 x.1⟩], fun x => [⟨1, [], .cells 4 [.b x.2.2]⟩, ⟨4, [], setO x.2.1⟩], fun x => (succL l lit).length - x.1,
    ⟨(0, (S ++ [lit], fine && !decide (opp lit ∈ S ++ [lit]))), [], ⟨Nat.zero_le _, AddL.none hn1 hrg1⟩, rfl, rfl, rfl, rfl, rfl, ⟨rfl, rfl⟩, ⟨⟨rfl, AVEq.refl _⟩, ⟨rfl, rfl, fun _ _ => ⟨rfl, rfl, rfl⟩⟩⟩⟩, ?_⟩
  rintro ⟨k, T, fn⟩ ⟨hk, had⟩
  have hTl : S.length + 1 ≤ T.length := by
    have := sub_len hn1 had.ad.sub
    rw [List.length_append] at this
    exact this
  have hT8 := set_short had.nd had.rg
  refine .inl ⟨fun hc => ?_, fun hc => ?_⟩
  · have hc := dlt hc
    have hxr := succL_rg hr lit ((succL l lit).getD k 0) (getD_memX (by omega))
    refine .inl ⟨⟨by dsimp only; omega, by dsimp only; omega⟩, ?_⟩
    refine .inr (.inr ⟨true, [0, 1, 2, 3, 4], rfl, _, _, _, _, _, ih (800 - T.length) (by omega) T fn ((succL l lit).getD (k : Int).toNat 0) had.nd had.rg (by rw [Int.toNat_natCast]; exact hxr) rfl, fun y hy => ?_⟩)
    rw [Int.toNat_natCast] at hy
    refine ⟨(k + 1, y), [], ⟨by dsimp only; omega, AddL.snoc (by omega) had hy⟩, by dsimp only; omega, rfl, rfl, rfl, rfl, rfl, ⟨rfl, wr (by omega) (by omega)⟩, ⟨⟨rfl, AVEq.refl _⟩, ⟨rfl, rfl, fun _ _ => ⟨rfl, rfl, rfl⟩⟩⟩⟩
  · have hc := dnlt hc
    have hk2 : (succL l lit).take k = succL l lit := List.take_of_length_le (by omega)
    have had : AddL l (S ++ [lit]) (fine && !decide (opp lit ∈ S ++ [lit])) ((succL l lit).take k) (T, fn) := had
    rw [hk2] at had
    exact ⟨⟨(T, fn), [], AddL.node h had, ⟨⟨⟨rfl, rfl, rfl⟩, trivial⟩, ⟨⟨rfl, rfl, rfl, ⟨rfl, AVEq.refl _⟩⟩, ⟨rfl, rfl, rfl, ⟨rfl, AVEq.refl _⟩⟩, ⟨rfl, rfl, rfl, ⟨rfl, AVEq.refl _⟩⟩, ⟨rfl, rfl, rfl, ⟨rfl, AVEq.refl _⟩⟩, ⟨rfl, rfl, trivial, ⟨rfl, rfl, fun _ _ => ⟨rfl, rfl, rfl⟩⟩⟩, trivial⟩, rfl⟩, rfl, fun h => by cases h⟩⟩
end Go.Proofs.Ytilhaifmfiobhaa
end

section
/-
  Literals and all that they imply are added to a set.
-/
namespace Go.Proofs.Ytilhaifmfiobhaa
open Go.Eng

set_option maxRecDepth 20000 in
set_option maxHeartbeats 4000000 in
theorem close_gen (l : List Cl) (hr : RightC 400 l) (hl : l.length ≤ 4000) (S lits : List Int) (key val : Nat → AV) (born : Nat → Nat) (hkv : ∀ k, k < S.length → key k = .i .i64 (S.getD k 0) ∧ val k = .b true ∧ born k = k) (hn : S.Nodup) (hrg : ∀ x ∈ S, 0 ≤ x ∧ x < 800) (hlits : ∀ x ∈ lits, 0 ≤ x ∧ x < 800) (nl : lits.length < 2 ^ 62) :
    CtrM Try.prog 115 false [.mp S.length key val born S.length] [gM l, .mo 0, .rs 1 lits.length (rowsI lits)] (AddL l S true lits) (fun y => [setO y.1]) (fun _ => []) (fun y => .b y.2) := by
  refine fn_of_execM tabOk Try.func115 (by kernel_rfl) rfl (N := Try.f115.ntmps) rfl (res := [.tmp 6]) rfl false false [.mp S.length key val born S.length] _ _ _ _ rfl (fun h => by cases h) [] ?_
  refine .inl ⟨[], Nat × (List Int × Bool), fun x => x.1 ≤ lits.length ∧ AddL l S true (lits.take x.1) x.2, fun x => [⟨14, [], .i .i64 x.1⟩], fun x => [⟨3, [], .cells 4 [.b x.2.2]⟩, ⟨0, [], setO x.2.1⟩], fun x => lits.length - x.1,
    ⟨(0, (S, true)), [], ⟨Nat.zero_le _, AddL.none hn hrg⟩, rfl, rfl, rfl, rfl, rfl, ⟨rfl, rfl⟩, ⟨⟨rfl, AVEq.refl _⟩, ⟨rfl, rfl, fun k hk => hkv k hk⟩⟩⟩, ?_⟩
  rintro ⟨k, T, fn⟩ ⟨hk, had⟩
  refine .inl ⟨fun hc => ?_, fun hc => ?_⟩
  · have hc := dlt hc
    have hxr := hlits (lits.getD k 0) (getD_memX (by omega))
    refine .inl ⟨⟨by dsimp only; omega, by dsimp only; omega⟩, ?_⟩
    refine .inr (.inr ⟨true, [2, 3, 1, 4, 0], rfl, _, _, _, _, _, add_fn l hr hl (800 - T.length) T fn (lits.getD (k : Int).toNat 0) had.nd had.rg (by rw [Int.toNat_natCast]; exact hxr) rfl, fun y hy => ?_⟩)
    rw [Int.toNat_natCast] at hy
    refine ⟨(k + 1, y), [], ⟨by dsimp only; omega, AddL.snoc (by omega) had hy⟩, by dsimp only; omega, rfl, rfl, rfl, rfl, rfl, ⟨rfl, wr (by omega) (by omega)⟩, ⟨⟨rfl, AVEq.refl _⟩, ⟨rfl, rfl, fun _ _ => ⟨rfl, rfl, rfl⟩⟩⟩⟩
  · have hc := dnlt hc
    have hk2 : lits.take k = lits := List.take_of_length_le (by omega)
    have had : AddL l S true (lits.take k) (T, fn) := had
    rw [hk2] at had
    exact ⟨⟨(T, fn), [], had, ⟨⟨⟨rfl, rfl, rfl⟩, trivial⟩, ⟨⟨rfl, rfl, trivial, ⟨rfl, rfl, fun _ _ => ⟨rfl, rfl, rfl⟩⟩⟩, trivial⟩, rfl⟩, rfl, fun _ => ⟨rfl, fun _ _ => ⟨rfl, rfl⟩⟩⟩⟩
theorem close_fn (l : List Cl) (hr : RightC 400 l) (hl : l.length ≤ 4000) (S lits : List Int) (hn : S.Nodup) (hrg : ∀ x ∈ S, 0 ≤ x ∧ x < 800) (hlits : ∀ x ∈ lits, 0 ≤ x ∧ x < 800) (nl : lits.length < 2 ^ 62) :
    CtrM Try.prog 115 false [setO S] [gM l, .mo 0, .rs 1 lits.length (rowsI lits)] (AddL l S true lits) (fun y => [setO y.1]) (fun _ => []) (fun y => .b y.2) :=
  close_gen l hr hl S lits _ _ _ (fun _ _ => ⟨rfl, rfl, rfl⟩) hn hrg hlits nl
theorem close_new (l : List Cl) (hr : RightC 400 l) (hl : l.length ≤ 4000) (lits : List Int) (hlits : ∀ x ∈ lits, 0 ≤ x ∧ x < 800) (nl : lits.length < 2 ^ 62) :
    CtrM Try.prog 115 false [.mp 0 (fun _ => .u) (fun _ => .u) (fun _ => 0) 0] [gM l, .mo 0, .rs 1 lits.length (rowsI lits)] (AddL l [] true lits) (fun y => [setO y.1]) (fun _ => []) (fun y => .b y.2) :=
  close_gen l hr hl [] lits _ _ _ (fun k hk => absurd hk (by simp)) (by simp) (by simp) hlits nl
end Go.Proofs.Ytilhaifmfiobhaa
end

section
/-
  The first assignment that satisfies the clauses and some literals.
-/
namespace Go.Proofs.Ytilhaifmfiobhaa
open Go.Eng

theorem Adds.congr {l : List Cl} {S S' T r : List Int} (hs : ∀ x, x ∈ S ↔ x ∈ S') (h : Adds l S T r) : Adds l S' T r :=
  ⟨fun x hx => h.sub x ((hs x).2 hx), h.root, fun x hx hn y e => h.cl x hx (fun hm => hn ((hs x).1 hm)) y e, fun x hx hn => h.fr x hx fun hm => hn ((hs x).1 hm)⟩
theorem clash_congr {S S' T : List Int} (hs : ∀ x, x ∈ S ↔ x ∈ S') : Clash S T ↔ Clash S' T := by
  unfold Clash
  simp only [hs]
theorem rc_rg {n : Int} {l : List Cl} (hr : RightC n l) {x y : Int} (h : Rc l x y) (hx : 0 ≤ x ∧ x < 2 * n) : 0 ≤ y ∧ y < 2 * n := by
  induction h with
  | refl => exact hx
  | step _ e _ => exact succL_rg hr _ _ e
theorem Adds.rg {n : Int} {l : List Cl} (hr : RightC n l) {S T r : List Int} (h : Adds l S T r) (hS : ∀ x ∈ S, 0 ≤ x ∧ x < 2 * n) (hroot : ∀ x ∈ r, 0 ≤ x ∧ x < 2 * n) : ∀ x ∈ T, 0 ≤ x ∧ x < 2 * n := by
  intro x hx
  by_cases hn : x ∈ S
  · exact hS x hn
  · obtain ⟨a, ha, hrc⟩ := h.fr x hx hn
    exact rc_rg hr hrc (hroot a ha)
theorem RetIs.sob {c d : Bool} {e sz n n' : Nat} {get get' : Nat → List AV} {id nid : Nat} {O : List OE} (hg : getO id O = some ([], .row e sz n' get')) (hn : n' = n) (hget : ∀ k, k < n → get' k = get k) (hf : ∀ k, k < n → AV.freshs (get k) = true) (hd : d = c) :
    RetIs [.row e sz n get] (.tup [.so 0, .b c]) (.tup [.so id, .b d]) O nid := by
  subst hn
  subst hd
  refine ⟨[(0, id)], ⟨⟨⟨rfl, rfl, ?_⟩, trivial⟩, ⟨⟨rfl, rfl, trivial, ?_⟩, trivial⟩, rfl⟩, rfl, hf⟩
  · exact rfl
  · show (match AO.row e sz n' get, getO id O with
      | .dead, _ => True
      | o, some ([], o') => AOEq (o.ren (rn [(0, id)])) o'
      | _, _ => False)
    rw [hg]
    exact ⟨rfl, rfl, rfl, hget⟩
theorem wlen {vs : List Bool} {b : Bool} (h : vs.length < 400) : IntKind.i64.wrap ((vs.length : Int) + 1) = ((vs ++ [b]).length : Nat) := by
  rw [List.length_append]
  exact wr (by omega) (by omega)
theorem upB (vs : List Bool) (b : Bool) (n : Nat) : ∀ k, k < n → (if k = ((vs.length : Nat) : Int).toNat then Go.Eng.over 0 [AV.b b] [AV.b (vs.getD k false)] else [AV.b (vs.getD k false)]) = [AV.b ((vs ++ [b]).getD k false)] := by
  intro k _
  rw [Int.toNat_natCast, getD_snoc']
  by_cases h : k = vs.length
  · rw [if_pos h, if_neg (by omega), if_pos h]
    rfl
  · rw [if_neg h]
    by_cases h2 : k < vs.length
    · rw [if_pos h2]
    · rw [if_neg h2, if_neg h]
      simp [List.getD, List.getElem?_eq_none (by omega : vs.length ≤ k)]
theorem CtrM.of_eqs {P : Program} {f : FuncId} {al : Bool} {ins : List AO} {args args' : List AV} {Y : Type} {spec : Y → Prop} {outs os : Y → List AO} {r : Y → AV} (he : AVsEq args args')
    (h : CtrM P f al ins args spec outs os r) : CtrM P f al ins args' spec outs os r :=
  ⟨h.1, fun F w β vs h1 h2 h3 h4 h5 h6 h7 => h.2 F w β vs h1 h2 h3 h4 h5 (he.get.1.trans h6) fun j g1 g2 => (he.get.2 j g1 (by rw [← he.get.1]; exact g1)).rep (h7 j (by rw [← he.get.1]; exact g1) g2)⟩
/-- Closing a set under one literal, in a row of one's own. -/
theorem close_one (l : List Cl) (hr : RightC 400 l) (hl : l.length ≤ 4000) (S : List Int) (x x' : Int) (e : x' = x) (hn : S.Nodup) (hrg : ∀ x ∈ S, 0 ≤ x ∧ x < 800) (hx : 0 ≤ x ∧ x < 800) :
    CtrM Try.prog 115 false [setO S] [gM l, .mo 0, .rs 1 1 (rowOf 1 [.i .i64 x'])] (AddL l S true [x]) (fun y => [setO y.1]) (fun _ => []) (fun y => .b y.2) := by
  subst e
  refine CtrM.of_eqs (args := [gM l, .mo 0, .rs 1 1 (rowsI [x'])]) ⟨AVEq.refl _, rfl, ⟨rfl, rfl, fun k hk => ?_⟩⟩ (close_fn l hr hl S [x'] hn hrg (fun y hy => by rw [List.mem_singleton.1 hy]; exact hx) (by simp))
  obtain rfl : k = 0 := by
    have : k < 1 := hk
    omega
  rfl
theorem noB (vs : List Bool) (k : Nat) : [AV.b (vs.getD k false)] = [AV.b ((vs ++ [false]).getD k false)] := by
  rw [getD_snoc']
  by_cases h : k < vs.length
  · rw [if_pos h]
  · rw [if_neg h]
    simp [List.getD, List.getElem?_eq_none (by omega : vs.length ≤ k)]
theorem nat_len : ∀ {m : Nat} {l : List Nat}, l.Nodup → (∀ x ∈ l, x < m) → l.length ≤ m := by
  intro m l h hs
  have h1 : ((l.map fun i : Nat => (i : Int))).Nodup := by
    rw [List.Nodup, List.pairwise_map]
    exact h.imp fun h e => h (by omega)
  have := nodup_lenX (m := m) h1 fun x hx => by
    obtain ⟨i, hi, rfl⟩ := List.mem_map.1 hx
    have := hs i hi
    omega
  rw [List.length_map] at this
  exact this
theorem copy_step {S : List Int} {seen : List Nat} {i : Nat} (hn : S.Nodup) (hs : seen.Nodup) (hr : ∀ i ∈ seen, i < S.length) (hi : i < S.length) (hns : i ∉ seen) :
    (seen ++ [i]).Nodup ∧ (∀ j ∈ seen ++ [i], j < S.length) ∧ S.length - (seen ++ [i]).length < S.length - seen.length ∧ ins (seen.map fun i => S.getD i 0) (S.getD i 0) = (seen ++ [i]).map fun i => S.getD i 0 := by
  have h1 : (seen ++ [i]).Nodup := by
    rw [List.nodup_append]
    refine ⟨hs, by simp, fun a ha b hb => ?_⟩
    rw [List.mem_singleton.1 hb]
    rintro rfl
    exact hns ha
  have h2 : ∀ j ∈ seen ++ [i], j < S.length := fun j hj => by
    rcases List.mem_append.1 hj with hj | hj
    · exact hr j hj
    · rw [List.mem_singleton.1 hj]; exact hi
  have h3 := nat_len h1 h2
  rw [List.length_append] at h3 ⊢
  have h3 : seen.length + 1 ≤ S.length := h3
  refine ⟨h1, h2, by show S.length - (seen.length + 1) < _; omega, ?_⟩
  rw [ins_new, List.map_append]
  · rfl
  · intro hm
    obtain ⟨j, hj, e⟩ := List.mem_map.1 hm
    exact hns (getD_injX hn (hr j hj) hi e ▸ hj)
theorem copy_done {S : List Int} {seen : List Nat} (hn : S.Nodup) (hs : seen.Nodup) (hr : ∀ i ∈ seen, i < S.length) (hall : ∀ i, i < S.length → i ∈ seen) :
    (seen.map fun i => S.getD i 0).Nodup ∧ ∀ x, x ∈ (seen.map fun i => S.getD i 0) ↔ x ∈ S := by
  refine ⟨?_, fun x => ⟨fun h => ?_, fun h => ?_⟩⟩
  · rw [List.Nodup, List.pairwise_map]
    exact List.Pairwise.imp_of_mem (fun ha hb h e => h (getD_injX hn (hr _ ha) (hr _ hb) e)) hs
  · obtain ⟨i, hi, rfl⟩ := List.mem_map.1 h
    exact getD_memX (hr i hi)
  · obtain ⟨i, hi, e⟩ := mem_getDX h
    exact List.mem_map.2 ⟨i, hall i hi, e⟩
def firstO : Option (List Bool) → List AO
  | some vs => [.row 4 1 vs.length fun k => [.b (vs.getD k false)]]
  | none => []
def firstR : Option (List Bool) → AV
  | some _ => .tup [.so 0, .b true]
  | none => .tup [.val (.slice none 0 0), .b false]

set_option maxRecDepth 20000 in
set_option maxHeartbeats 4000000 in
theorem first_fn (l : List Cl) (n : Nat) (hr : RightC n l) (hn : n ≤ 400) (hl : l.length ≤ 4000) (lits : List Int) (hlits : ∀ x ∈ lits, 0 ≤ x ∧ x < 2 * (n : Int)) (nl : lits.length < 2 ^ 62) :
    Ctr Try.prog 72 [gM l, .i .i64 n, .rs 1 lits.length (rowsI lits)] (firstO (firstL l n lits)) (firstR (firstL l n lits)) := by
  have hr4 : RightC 400 l := fun c hc => by
    have := hr c hc
    omega
  refine fn_of_exec tabOk Try.func72 (by kernel_rfl) rfl (N := Try.f72.ntmps) rfl (res := [.tmp 6, .tmp 7]) rfl rfl [(5, [.sl 13 .u, .sl 15 .u])] ?_
  refine .inl (.inr (.inr ⟨false, [0], rfl, _, _, _, _, _, close_new l hr4 hl lits (fun x hx => by have := hlits x hx; omega) nl, fun y hy => ?_⟩))
  refine ⟨fun hf => ?_, fun hf => ?_⟩
  · have hf : (!y.2) = true := hf
    have hcl : Clash [] y.1 := Classical.byContradiction fun h => by
      have := hy.fl.2 ⟨rfl, h⟩
      rw [this] at hf
      cases hf
    have e : firstL l n lits = none := firstL_none.2 (first_fail0 hy.ad hcl)
    rw [e]
    exact ⟨⟨[], ⟨⟨⟨rfl, rfl, AVEq.refl _⟩, trivial⟩, trivial, rfl⟩, rfl, trivial⟩⟩
  have hf : (!y.2) = false := hf
  have hcl : ¬ Clash [] y.1 := (hy.fl.1 (by simpa using hf)).2
  have hI0 : FirstInv l n lits y.1 [] := FirstInv.start hy.ad hcl
  refine ⟨⟨rfl, by omega, by rw [Int.toNat_natCast]; show 1 * n ≤ _; omega⟩, ?_⟩
  have hrg0 : ∀ x ∈ y.1, 0 ≤ x ∧ x < 2 * (n : Int) := hy.ad.rg hr (by simp) hlits
  refine .inl ⟨trivial, trivial, ?_⟩
  refine ⟨[], List Int × List Bool, fun x => x.2.length ≤ n ∧ FirstInv l n lits x.1 x.2 ∧ x.1.Nodup ∧ (∀ a ∈ x.1, 0 ≤ a ∧ a < 2 * (n : Int)), fun x => [⟨22, [], .i .i64 x.2.length⟩, ⟨8, [], .mo 0⟩], fun x => [⟨0, [], setO x.1⟩, ⟨1, [], .row 4 1 n fun k => [.b (x.2.getD k false)]⟩], fun x => n - x.2.length,
    ⟨(y.1, []), [], ⟨Nat.zero_le _, hI0, hy.nd, hrg0⟩, rfl, rfl, rfl, rfl, rfl, ⟨⟨rfl, rfl⟩, rfl⟩, ⟨⟨rfl, rfl, fun _ _ => ⟨rfl, rfl, rfl⟩⟩, ⟨rfl, rfl, rfl, fun _ _ => rfl⟩⟩⟩, ?_⟩
  rintro ⟨S, vs⟩ ⟨hk, hI, hnd, hrg⟩
  refine .inl ⟨fun hc => ?_, fun hc => ?_⟩
  · have hc := dlt hc
    have hc : (vs.length : Int) < n := hc
    have w2 : IntKind.i64.wrap (2 * (vs.length : Int)) = 2 * vs.length := wr (by omega) (by omega)
    have w3 : IntKind.i64.wrap (IntKind.i64.wrap (2 * (vs.length : Int)) + 1) = 2 * vs.length + 1 := by rw [w2]; exact wr (by omega) (by omega)
    have lk2 : LookOk S.length (fun i => .i .i64 (S.getD i 0)) (fun _ => .b true) (.i .i64 (IntKind.i64.wrap (2 * (vs.length : Int)))) (.b (decide (2 * (vs.length : Int) ∈ S))) (.b false) (decide (2 * (vs.length : Int) ∈ S)) := by
      rw [w2]
      exact lookOk_set S _
    have lk3 : LookOk S.length (fun i => .i .i64 (S.getD i 0)) (fun _ => .b true) (.i .i64 (IntKind.i64.wrap (IntKind.i64.wrap (2 * (vs.length : Int)) + 1))) (.b (decide (2 * (vs.length : Int) + 1 ∈ S))) (.b false) (decide (2 * (vs.length : Int) + 1 ∈ S)) := by
      rw [w3]
      exact lookOk_set S _
    refine .inl (.inl ⟨_, _, ⟨fun _ _ => rfl, rfl, lk2⟩, ?_⟩)
    refine ⟨_, _, ⟨fun _ => ⟨fun _ _ => rfl, rfl, lk3⟩, ?_⟩⟩
    refine ⟨fun hf => ?_, fun hf => ?_⟩
    · have hf : (decide (2 * (vs.length : Int) ∈ S) || decide (2 * (vs.length : Int) + 1 ∈ S)) = true := hf
      have hkn : 2 * (vs.length : Int) ∈ S ∨ 2 * (vs.length : Int) + 1 ∈ S := by simpa using hf
      refine ⟨_, _, ⟨fun _ _ => rfl, rfl, lk2⟩, ?_⟩
      refine ⟨⟨by dsimp only; omega, by dsimp only; omega⟩, ?_⟩
      refine ⟨by dsimp only; omega, ?_⟩
      refine ⟨(S, vs ++ [decide (2 * (vs.length : Int) ∈ S)]), [], ⟨by simp; omega, hI.known hkn, hnd, hrg⟩, by simp; omega, rfl, rfl, rfl, rfl, rfl, ⟨⟨rfl, ?_⟩, rfl⟩, ⟨⟨rfl, rfl, fun _ _ => ⟨rfl, rfl, rfl⟩⟩, ⟨rfl, rfl, rfl, ?_⟩⟩⟩
      · exact wlen (by omega)
      · exact upB vs _ n
    · have hf : (decide (2 * (vs.length : Int) ∈ S) || decide (2 * (vs.length : Int) + 1 ∈ S)) = false := hf
      refine .inl ⟨[], List Nat, fun seen => seen.Nodup ∧ ∀ i ∈ seen, i < S.length, fun _ => [], fun seen => [⟨2, [], setO (seen.map fun i => S.getD i 0)⟩, ⟨3, [], .it 0 S.length seen⟩], fun seen => S.length - seen.length,
        ⟨[], [], ⟨by simp, by simp⟩, rfl, rfl, rfl, rfl, rfl, trivial, ⟨⟨rfl, rfl, fun k hk => absurd hk (by simp)⟩, ⟨rfl, rfl, rfl⟩⟩⟩, ?_⟩
      rintro seen ⟨hsn, hsr⟩
      refine ⟨rfl, fun i hi hns => ?_, fun hall => ?_⟩
      · refine .inl ⟨fun _ => ?_, fun h => by cases h⟩
        refine ⟨i, ⟨hi, by simp, rfl⟩, ?_⟩
        refine ⟨_, _, _, _, _, ⟨fun _ _ => rfl, rfl, updOk_set (seen.map fun i => S.getD i 0) (S.getD i 0)⟩, ?_⟩
        obtain ⟨g1, g2, g3, g4⟩ := copy_step hnd hsn hsr hi (by simpa using hns)
        rw [g4]
        exact ⟨seen ++ [i], [], ⟨g1, g2⟩, g3, rfl, rfl, rfl, rfl, rfl, trivial, ⟨⟨rfl, rfl, fun _ _ => ⟨rfl, rfl, rfl⟩⟩, ⟨rfl, rfl, rfl⟩⟩⟩
      · refine .inl ⟨fun h => (by cases h), fun _ => ?_⟩
        refine .inl (.inr (.inr ⟨false, [2], rfl, _, _, _, _, _, close_one l hr4 hl (seen.map fun i => S.getD i 0) (2 * (vs.length : Int) + 1) _ w3 ?_ ?_ ?_, fun z hz => ?_⟩))
        · exact (copy_done hnd hsn hsr hall).1
        · exact fun x hx => by have := hrg x (((copy_done hnd hsn hsr hall).2 x).1 hx); omega
        · omega
        have hz : AddL l (seen.map fun i => S.getD i 0) true [2 * (vs.length : Int) + 1] z := hz
        have hz1 : Adds l S z.1 [2 * (vs.length : Int) + 1] := hz.ad.congr (copy_done hnd hsn hsr hall).2
        have hz2 : z.2 = true ↔ ¬ Clash S z.1 := by rw [hz.fl, clash_congr (copy_done hnd hsn hsr hall).2]; simp
        have hzr : ∀ a ∈ z.1, 0 ≤ a ∧ a < 2 * (n : Int) := hz1.rg hr hrg (fun x hx => by rw [List.mem_singleton.1 hx]; omega)
        refine ⟨fun h => ?_, fun h => ?_⟩
        · have h : z.2 = true := h
          exact ⟨(z.1, vs ++ [false]), [(0, 2)], ⟨by simp; omega, hI.no hz1 (hz2.1 h), hz.nd, hzr⟩, by simp; omega, rfl, rfl, rfl, rfl, rfl, ⟨⟨rfl, wlen (by omega)⟩, rfl⟩, ⟨⟨rfl, rfl, fun _ _ => ⟨rfl, rfl, rfl⟩⟩, ⟨rfl, rfl, rfl, fun k _ => noB vs k⟩⟩⟩
        have h : z.2 = false := h
        have hzc : Clash S z.1 := Classical.byContradiction fun hc => by
          have := hz2.2 hc
          rw [h] at this
          cases this
        refine .inl (.inr (.inr ⟨false, [0], rfl, _, _, _, _, _, close_one l hr4 hl S (2 * (vs.length : Int)) _ w2 hnd (fun x hx => by have := hrg x hx; omega) (by omega), fun q hq => ?_⟩))
        have hq : AddL l S true [2 * (vs.length : Int)] q := hq
        have hqr : ∀ a ∈ q.1, 0 ≤ a ∧ a < 2 * (n : Int) := hq.ad.rg hr hrg (fun x hx => by rw [List.mem_singleton.1 hx]; omega)
        refine ⟨fun h2 => ?_, fun h2 => ?_⟩
        · have h2 : (!q.2) = true := h2
          have hcq : Clash S q.1 := Classical.byContradiction fun h => by
            have := hq.fl.2 ⟨rfl, h⟩
            rw [this] at h2
            cases h2
          have e : firstL l n lits = none := firstL_none.2 (hI.fail hr hrg hz1 hzc hq.ad hcq)
          rw [e]
          exact ⟨⟨[], ⟨⟨⟨rfl, rfl, AVEq.refl _⟩, trivial⟩, trivial, rfl⟩, rfl, trivial⟩⟩
        have h2 : (!q.2) = false := h2
        have hcq : ¬ Clash S q.1 := (hq.fl.1 (by simpa using h2)).2
        refine ⟨⟨by dsimp only; omega, by dsimp only; omega⟩, by dsimp only; omega, ?_⟩
        exact ⟨(q.1, vs ++ [true]), [], ⟨by simp; omega, hI.yes hz1 hzc hq.ad hcq, hq.nd, hqr⟩, by simp; omega, rfl, rfl, rfl, rfl, rfl, ⟨⟨rfl, wlen (by omega)⟩, rfl⟩, ⟨⟨rfl, rfl, fun _ _ => ⟨rfl, rfl, rfl⟩⟩, ⟨rfl, rfl, rfl, upB vs true n⟩⟩⟩
  · have hc := dnlt hc
    have hc : (n : Int) ≤ vs.length := hc
    have hk : vs.length ≤ n := hk
    have hl2 : vs.length = n := by omega
    have e : firstL l n lits = some vs := firstL_some.2 (hI.isFirst hr hl2 hlits)
    rw [e]
    subst hl2
    exact RetIs.sob rfl rfl (fun _ _ => rfl) (fun _ _ => rfl) rfl
end Go.Proofs.Ytilhaifmfiobhaa
end
