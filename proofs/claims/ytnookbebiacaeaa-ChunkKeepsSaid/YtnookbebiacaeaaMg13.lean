/-
  Several texts in one: EngT, EngR.
-/
import Derived.Sort.Grow
import Derived.Test.YtnookbebiacaeaaMg12

section
namespace Go.Eng
open Go.RowKit Go.Sort
section
variable {P : Program}
end
end Go.Eng
end

section
namespace Go.Eng
open Go.RowKit
theorem CtrM.of_true {P : Program} {f : FuncId} {ins outs : List AO} {args : List AV} {r : AV} (hlen : outs.length = ins.length) (hc : Callable P f)
  (h : ∀ (F : Nat → Prop) (w : World) (β : Bd) (vs : List Value), (∀ g, OwnOf β ins g → F g) → (∀ g, F g → g < w.heap.size) → (∀ j o, ins[j]? = some o → ObjOk β ins.length F w j o) → DistO β ins → args.length = vs.length →
   (∀ (j : Nat) (h1 : j < args.length) (h2 : j < vs.length), Rep β ins.length F w args[j] vs[j]) →
   Calls P f vs.toArray w fun e w' => ∃ v, e = .returned v ∧ Frame (OwnOf β ins) w w' ∧ (∀ j o, outs[j]? = some o → ObjOk β ins.length F w' j o) ∧
    (∀ j o o' g, ins[j]? = some o → outs[j]? = some o' → ownB β j o' g → ownB β j o g) ∧ Rep β ins.length F w' r v) :
  CtrM P f true ins args (fun _ : Unit => True) (fun _ => outs) (fun _ => []) (fun _ => r) := by
 refine ⟨hc, fun F w β vs hOF hFl _ hobj hdist hl hr => ?_⟩
 refine (h F w β vs hOF hFl hobj hdist hl hr).mono ?_
 rintro e w' ⟨v, rfl, hfr, hob, hown, hres⟩
 have hsub : ∀ g, OwnOf β outs g → OwnOf β ins g := by
  rintro g ⟨j, o', hj, hg⟩
  have hjl : j < ins.length := by
   have := (List.getElem?_eq_some_iff.1 hj).1
   omega
  exact ⟨j, ins[j], List.getElem?_eq_getElem hjl, hown j _ o' g (List.getElem?_eq_getElem hjl) hj hg⟩
 have hF : ∀ g, ¬ F g → ¬ Fres true F w β outs g := by
  rintro g hn ((⟨h1, _⟩ | h1) | h1)
  ·cases h1
  ·exact hn h1
  ·exact hn (hOF g (hsub g h1))
 refine ⟨v, β, (), rfl, trivial, ⟨fun _ _ => ⟨rfl, rfl⟩, hfr, hlen, ?_, ?_, ?_, ?_⟩⟩
 ·intro j o hj
  have hj : (outs ++ [])[j]? = some o := hj
  show ObjOk β (outs ++ []).length (Fres true F w β (outs ++ [])) w' j o
  rw [List.append_nil] at hj ⊢
  have hjl := (List.getElem?_eq_some_iff.1 hj).1
  exact (hob j o hj).stable (by omega) (by omega) (fun _ _ => ⟨rfl, rfl⟩) (fun g _ hn => hF g hn) (fun _ _ _ => rfl) (Nat.le_refl _) (fun _ _ => rfl)
 ·intro g hg
  have hg : OwnOf β (outs ++ []) g := hg
  rw [List.append_nil] at hg
  exact .inl (hsub g hg)
 ·intro j j' o o' g hj hj' hg hg'
  have hj : (outs ++ [])[j]? = some o := hj
  have hj' : (outs ++ [])[j']? = some o' := hj'
  rw [List.append_nil] at hj hj'
  have hjl : j < ins.length := by
   have := (List.getElem?_eq_some_iff.1 hj).1
   omega
  have hjl' : j' < ins.length := by
   have := (List.getElem?_eq_some_iff.1 hj').1
   omega
  exact hdist j j' ins[j] ins[j'] g (List.getElem?_eq_getElem hjl) (List.getElem?_eq_getElem hjl') (hown j _ o g (List.getElem?_eq_getElem hjl) hj hg) (hown j' _ o' g (List.getElem?_eq_getElem hjl') hj' hg')
 ·show Rep β (outs ++ []).length (Fres true F w β (outs ++ [])) w' r v
  rw [List.append_nil]
  exact (hres.stable (fun g _ hn => hF g hn) (fun _ _ _ => rfl) (Nat.le_refl _)).more (by omega)
end Go.Eng
end
