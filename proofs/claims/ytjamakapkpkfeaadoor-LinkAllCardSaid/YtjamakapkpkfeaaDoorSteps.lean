/- The steps of a plan's walk once more, each guard read by itself: quick where a function has many temporaries. -/
import Derived.Test.YtjamakapkpkfeaaDoorOut
namespace Go.Proofs.YtjamakapkpkfeaaDoor
open Go.RowKit Go.Shelf

section steps
variable {P : Program} {ops : Array Oper} {K : Act → World → Prop} {r : Plan Oper} {o oj : Oper} {a : Act} {b w : World} {j d : Nat} {want : Bool}
theorem wanted_none (hg : o.guard = none) (y : Nat → Option Bool) : Region.wanted o y = true := by unfold Region.wanted; rw [hg]
theorem wanted_met (hg : o.guard = some (j, want)) (ho : ops[j]? = some oj) (hd : oj.dst = some d) (ht : a.tmps[d]? = some (.bool want)) : Region.wanted o (yielded ops a.tmps) = true := by
  unfold Region.wanted yielded; rw [hg]; simp [ho, hd, ht]
theorem wanted_not (hg : o.guard = some (j, want)) (ho : ops[j]? = some oj) (hd : oj.dst = some d) (ht : a.tmps[d]? = some (.bool (!want))) : Region.wanted o (yielded ops a.tmps) = false := by
  unfold Region.wanted yielded; rw [hg]; simp [ho, hd, ht]
theorem pure_n (hg : o.guard = none) (h : ∀ N : Act → Prop, (∀ a', wpPlan P ops K r a' b w → N a') → o.quiet P a (fun _ => True) N) : wpPlan P ops K (.step o .pure r) a b w := plan_pure (wanted_none hg _) h
theorem read_n (hg : o.guard = none) (h : ∀ N : Act → Prop, (∀ a', wpPlan P ops K r a' b w → N a') → o.quiet P a (fun w' => ∃ u, w' = wplus b u) N) : wpPlan P ops K (.step o .read r) a b w := plan_read (wanted_none hg _) h
theorem pure_g (hg : o.guard = some (j, want)) (ho : ops[j]? = some oj) (hd : oj.dst = some d) (ht : a.tmps[d]? = some (.bool want)) (h : ∀ N : Act → Prop, (∀ a', wpPlan P ops K r a' b w → N a') → o.quiet P a (fun _ => True) N) : wpPlan P ops K (.step o .pure r) a b w := plan_pure (wanted_met hg ho hd ht) h
theorem read_g (hg : o.guard = some (j, want)) (ho : ops[j]? = some oj) (hd : oj.dst = some d) (ht : a.tmps[d]? = some (.bool want)) (h : ∀ N : Act → Prop, (∀ a', wpPlan P ops K r a' b w → N a') → o.quiet P a (fun w' => ∃ u, w' = wplus b u) N) : wpPlan P ops K (.step o .read r) a b w := plan_read (wanted_met hg ho hd ht) h
theorem skip_g {k : Kd} (hg : o.guard = some (j, want)) (ho : ops[j]? = some oj) (hd : oj.dst = some d) (ht : a.tmps[d]? = some (.bool (!want))) (h : wpPlan P ops K r (a.put o.dst undef) b w) : wpPlan P ops K (.step o k r) a b w := plan_skip (wanted_not hg ho hd ht) h
theorem eff_n {m : Bool} (hg : o.guard = none) (h : ∀ N : Act → World → Prop, (∀ a' b' w', (m = false → Ext b b') → Ext b' w' → wpPlan P ops K r a' b' w' → N a' w') → o.wp P a w N (okQ fun _ _ => False)) : wpPlan P ops K (.step o (.eff m) r) a b w := plan_eff (wanted_none hg _) h
theorem eff_g {m : Bool} (hg : o.guard = some (j, want)) (ho : ops[j]? = some oj) (hd : oj.dst = some d) (ht : a.tmps[d]? = some (.bool want)) (h : ∀ N : Act → World → Prop, (∀ a' b' w', (m = false → Ext b b') → Ext b' w' → wpPlan P ops K r a' b' w' → N a' w') → o.wp P a w N (okQ fun _ _ => False)) : wpPlan P ops K (.step o (.eff m) r) a b w := plan_eff (wanted_met hg ho hd ht) h
end steps
end Go.Proofs.YtjamakapkpkfeaaDoor
