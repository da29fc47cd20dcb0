/- Regions inside the round of a range over a function, walked by the plain laws: a region without defer statements goes there as anywhere (this claim's own law). -/
import Derived.Test.YtdnmddfnlkaahaaRangeX
import Derived.OrdersIn
namespace Go.Proofs.Ytdnmddfnlkaahaa
open Go Go.RowKit

section
variable {P : Program}
/-- no defer statement among them -/
def noDefer (ops : Array Oper) : Bool := ops.toList.all fun o => match o.op with | .defer _ => false | _ => true
theorem noDefer_spec {ops : Array Oper} (h : noDefer ops = true) (i : Nat) (o : Oper) (hi : ops[i]? = some o) : ∀ c, o.op ≠ .defer c := by
  intro c hc
  unfold noDefer at h
  rw [List.all_eq_true] at h
  have := h o (by rw [Array.mem_toList_iff]; exact Array.mem_of_getElem? hi)
  rw [hc] at this
  cases this
theorem Oper.wpIn_of_wp {l n : Nat} {o : Oper} {a : Act} {w : World} {K K' : Act → World → Prop} {Q : Exit → Act → World → Prop} (hK : ∀ a w, K a w → K' a w) (hd : ∀ c, o.op ≠ .defer c) (h : o.wp P a w K Q) :
    o.wpIn (Fence.wide.inRound l) n P a w K' Q := by
  refine ⟨fun _ _ => trivial, ?_⟩
  rw [show (Fence.wide.inRound l).round = some l from rfl, Oper.semAt_some l _ o hd]
  unfold Oper.wp at h
  generalize (execOp a.eval o).run P w = r at *
  cases r with
  | ok x w' =>
    cases x with
    | value v => exact hK _ _ h
    | skip => exact hK _ _ h
    | defer d => exact hK _ _ h
    | enter f args =>
      refine ⟨fun hh => (by cases hh), CallsIn.inRound l (callsIn_wide.2 (h.mono fun e w'' hr => ?_))⟩
      cases e with
      | returned v => exact hK _ _ hr
      | panicked c => exact hr
      | outgrown => exact hr
    | row r args =>
      refine ⟨fun hh => (by cases hh), fun c cs _ => ?_⟩
      obtain ⟨v, w'', hr, hs⟩ := h c cs
      exact ⟨v, w'', hK _ _ hr, stepsIn_wide.2 hs⟩
    | _ => exact h.elim
  | halt x w' =>
    cases x <;> first | exact h | exact h.elim
theorem wpOpsIn_of_wpOps {l n : Nat} {ops : Array Oper} {Q : Exit → Act → World → Prop} (hL : ¬ LetsOut Q) (hd : noDefer ops = true) :
    ∀ (is : List Nat) (a : Act) (w : World), wpOps P ops Q is a w → wpOpsIn (Fence.wide.inRound l) n P ops Q is a w
  | [], _, _, h => h
  | i :: is, a, w, h => by
    unfold wpOps at h
    unfold wpOpsIn
    cases ho : ops[i]? with
    | none =>
      simp only [ho] at h ⊢
      exact wpOpsIn_of_wpOps hL hd is a w h
    | some o =>
      simp only [ho] at h ⊢
      split
      · rename_i hw
        rw [if_pos hw] at h
        rcases h with h | ⟨_, h⟩
        · exact Oper.wpIn_of_wp (fun a w hk => wpOpsIn_of_wpOps hL hd is a w hk) (noDefer_spec hd i o ho) h
        · exact absurd h hL
      · rename_i hw
        rw [if_neg hw] at h
        exact ⟨fun _ _ => trivial, wpOpsIn_of_wpOps hL hd is _ w h⟩
/-- only the end without an exit -/
def onlyEnd (Q : Exit → Act → World → Prop) : Exit → Act → World → Prop := fun e a w => e = .normal ∧ Q .normal a w
theorem onlyEnd_lets (Q : Exit → Act → World → Prop) : ¬ LetsOut (onlyEnd Q) := fun ⟨_, _, h, _⟩ => by cases h
theorem onlyEnd_mono {Q : Exit → Act → World → Prop} : ∀ e a w, onlyEnd Q e a w → Q e a w := fun e a w ⟨h, hq⟩ => h ▸ hq

theorem wpIn_region_seqR {l n id : Nat} {ls : List Oper} {Q' : Exit → Act → World → Prop} {a : Act} {w : World} (hd : noDefer ls.toArray = true) (h : seqW P ls.toArray (fun a w => Q' .normal a w) ls a w) :
    (Code.region id ls.toArray false).wpIn (Fence.wide.inRound l) n P Q' a w := by
  refine Code.wpIn_mono onlyEnd_mono (wpIn_region ?_)
  refine wpOpsIn_of_wpOps (onlyEnd_lets _) hd _ _ _ ?_
  have h2 := wpOps_eq_wpList (P := P) (Q := onlyEnd Q') (ops := ls.toArray) ls 0 (by simp)
  rw [List.range_eq_range']
  show wpOps P ls.toArray (onlyEnd Q') (List.range' 0 ls.length) a w
  rw [h2]
  refine wpList_of_seqW ls a w ?_
  have : (fun (a : Act) (w : World) => onlyEnd Q' .normal a w) = fun a w => Q' .normal a w := by
    funext a w
    exact propext ⟨fun h => h.2, fun h => ⟨rfl, h⟩⟩
  rw [this]
  exact h

variable {C : World → Prop} {R : World → World → Prop}
theorem wpIn_region_dagR {l n id : Nat} {ls : List Oper} {Q' : Exit → Act → World → Prop} {a : Act} {w : World} (L : List (Option (Tells R))) (hd : noDefer ls.toArray = true) (hm : P.follows .mixedOrders = true) (hB : dagB ls.toArray (Region.before ls.toArray) = true)
    (hC : C w.drew) (h : dagT P ls.toArray (Region.before ls.toArray) C R (fun a w => Q' .normal a w) L 0 ls (fun _ _ => True) a) : (Code.region id ls.toArray true).wpIn (Fence.wide.inRound l) n P Q' a w := by
  refine Code.wpIn_mono onlyEnd_mono (wpIn_region_draw fun t => ?_)
  refine wpOpsIn_of_wpOps (onlyEnd_lets _) hd _ _ _ ?_
  simp only [Region.schedule, hm, Bool.true_or, if_true]
  refine wpAny_sound _ t _ a _ ?_
  have hd := dag_of_dagT (ops := ls.toArray) L ls L 0 _ a (by simp) (by simp) h
  refine wpAny_of_dag (Q := fun a w => Q' .normal a w) (fun _ _ h => ⟨rfl, h⟩) hB _ (List.range' 0 ls.length) _ (fun _ _ => True) a _ (by simp) (by simp) (List.pairwise_lt_range') (fun i => ?_) (fun i hi hn => ?_) hC (fun _ => trivial) (fun _ _ _ _ h => h) hd
  · simp [List.mem_range', Array.getElem?_replicate]
    split <;> simp <;> omega
  · exact absurd (by simp [List.mem_range']; simpa using hi) hn
end
end Go.Proofs.Ytdnmddfnlkaahaa
