/-
  The contract of the compactor's step.
-/
import Derived.Test.YtfjnkneoddankaaGreatFold
import Derived.Test.YtfjnkneoddankaaGreatSh4
import Derived.Test.YtfjnkneoddankaaGreatModC
set_option linter.unusedVariables false
set_option linter.unusedSimpArgs false
set_option maxRecDepth 100000
namespace Go.Proofs.YtfjnkneoddankaaGreat
open Go Go.FL Go.Proofs

theorem csStart_ev (c : PCfg) (who : Int) (x : PComp) (cap : Nat) (mm : PMem) (K : PComp → Nat → PMem → Prop) : evF Tryz.prog ownK4 10 20 19 [.c (.ptr 0 0), envV c 1 who] ⟨cat [(true, .comp ({ x with pc := 0, seen := none, m := none, a := none, s := none }) cap), (false, .mem mm)] 0, []⟩ (fun v H₁ => match v with | .tup [] => (shComp H₁ 0 fun x' cap' c' => shF H₁ 1 fun o c2 => match o with | .mem m' => (match chkAll [(true, .comp ({ x with pc := 0, seen := none, m := none, a := none, s := none }) cap), (false, .mem mm)] [c', c2] [] with | true => K x' cap' m' | false => False) | _ => False) | _ => False) = csStartK False rqP faP rmP c who x cap mm K := by kernel_rfl

theorem cs0_0_ev (c : PCfg) (who : Int) (x : PComp) (seen : PSeenL) (cap : Nat) (mm : PMem) (K : PComp → Nat → PMem → Prop) : evF Tryz.prog ownK4 10 20 19 [.c (.ptr 0 0), envV c 2 who] ⟨cat [(true, .comp ({ x with pc := 0, seen := some seen, m := none, a := none, s := none }) cap), (false, .mem mm)] 0, []⟩ (fun v H₁ => match v with | .tup [] => (shComp H₁ 0 fun x' cap' c' => shF H₁ 2 fun o c2 => match o with | .mem m' => (match chkAll [(true, .comp ({ x with pc := 0, seen := some seen, m := none, a := none, s := none }) cap), (false, .mem mm)] [c', c2] [] with | true => K x' cap' m' | false => False) | _ => False) | _ => False) = cs0_0K False rqP faP rmP c who x seen cap mm K := by kernel_rfl

theorem cs1_0_ev (c : PCfg) (who : Int) (x : PComp) (seen : PSeenL) (cap : Nat) (mm : PMem) (K : PComp → Nat → PMem → Prop) : evF Tryz.prog ownK4 10 20 19 [.c (.ptr 0 0), envV c 2 who] ⟨cat [(true, .comp ({ x with pc := 1, seen := some seen, m := none, a := none, s := none }) cap), (false, .mem mm)] 0, []⟩ (fun v H₁ => match v with | .tup [] => (shComp H₁ 0 fun x' cap' c' => shF H₁ 2 fun o c2 => match o with | .mem m' => (match chkAll [(true, .comp ({ x with pc := 1, seen := some seen, m := none, a := none, s := none }) cap), (false, .mem mm)] [c', c2] [] with | true => K x' cap' m' | false => False) | _ => False) | _ => False) = cs1_0K False rqP faP rmP c who x seen cap mm K := by kernel_rfl

theorem cs2_0_ev (c : PCfg) (who : Int) (x : PComp) (seen : PSeenL) (cap : Nat) (mm : PMem) (K : PComp → Nat → PMem → Prop) : evF Tryz.prog ownK4 10 20 19 [.c (.ptr 0 0), envV c 2 who] ⟨cat [(true, .comp ({ x with pc := 2, seen := some seen, m := none, a := none, s := none }) cap), (false, .mem mm)] 0, []⟩ (fun v H₁ => match v with | .tup [] => (shComp H₁ 0 fun x' cap' c' => shF H₁ 2 fun o c2 => match o with | .mem m' => (match chkAll [(true, .comp ({ x with pc := 2, seen := some seen, m := none, a := none, s := none }) cap), (false, .mem mm)] [c', c2] [] with | true => K x' cap' m' | false => False) | _ => False) | _ => False) = cs2_0K False rqP faP rmP c who x seen cap mm K := by kernel_rfl

theorem cs3_0_ev (c : PCfg) (who : Int) (x : PComp) (seen : PSeenL) (cap : Nat) (mm : PMem) (K : PComp → Nat → PMem → Prop) : evF Tryz.prog ownK4 10 20 19 [.c (.ptr 0 0), envV c 2 who] ⟨cat [(true, .comp ({ x with pc := 3, seen := some seen, m := none, a := none, s := none }) cap), (false, .mem mm)] 0, []⟩ (fun v H₁ => match v with | .tup [] => (shComp H₁ 0 fun x' cap' c' => shF H₁ 2 fun o c2 => match o with | .mem m' => (match chkAll [(true, .comp ({ x with pc := 3, seen := some seen, m := none, a := none, s := none }) cap), (false, .mem mm)] [c', c2] [] with | true => K x' cap' m' | false => False) | _ => False) | _ => False) = cs3_0K False rqP faP rmP c who x seen cap mm K := by kernel_rfl

theorem cs4_0_ev (c : PCfg) (who : Int) (x : PComp) (seen : PSeenL) (cap : Nat) (mm : PMem) (K : PComp → Nat → PMem → Prop) : evF Tryz.prog ownK4 10 20 19 [.c (.ptr 0 0), envV c 2 who] ⟨cat [(true, .comp ({ x with pc := 4, seen := some seen, m := none, a := none, s := none }) cap), (false, .mem mm)] 0, []⟩ (fun v H₁ => match v with | .tup [] => (shComp H₁ 0 fun x' cap' c' => shF H₁ 2 fun o c2 => match o with | .mem m' => (match chkAll [(true, .comp ({ x with pc := 4, seen := some seen, m := none, a := none, s := none }) cap), (false, .mem mm)] [c', c2] [] with | true => K x' cap' m' | false => False) | _ => False) | _ => False) = cs4_0K False rqP faP rmP c who x seen cap mm K := by kernel_rfl

theorem cs5_0_ev (c : PCfg) (who : Int) (x : PComp) (seen : PSeenL) (cap : Nat) (mm : PMem) (K : PComp → Nat → PMem → Prop) : evF Tryz.prog ownK4 10 20 19 [.c (.ptr 0 0), envV c 2 who] ⟨cat [(true, .comp ({ x with pc := 5, seen := some seen, m := none, a := none, s := none }) cap), (false, .mem mm)] 0, []⟩ (fun v H₁ => match v with | .tup [] => (shComp H₁ 0 fun x' cap' c' => shF H₁ 2 fun o c2 => match o with | .mem m' => (match chkAll [(true, .comp ({ x with pc := 5, seen := some seen, m := none, a := none, s := none }) cap), (false, .mem mm)] [c', c2] [] with | true => K x' cap' m' | false => False) | _ => False) | _ => False) = cs5_0K False rqP faP rmP c who x seen cap mm K := by kernel_rfl

theorem cs6_0_ev (c : PCfg) (who : Int) (x : PComp) (seen : PSeenL) (cap : Nat) (mm : PMem) (K : PComp → Nat → PMem → Prop) : evF Tryz.prog ownK4 10 20 19 [.c (.ptr 0 0), envV c 2 who] ⟨cat [(true, .comp ({ x with pc := 6, seen := some seen, m := none, a := none, s := none }) cap), (false, .mem mm)] 0, []⟩ (fun v H₁ => match v with | .tup [] => (shComp H₁ 0 fun x' cap' c' => shF H₁ 2 fun o c2 => match o with | .mem m' => (match chkAll [(true, .comp ({ x with pc := 6, seen := some seen, m := none, a := none, s := none }) cap), (false, .mem mm)] [c', c2] [] with | true => K x' cap' m' | false => False) | _ => False) | _ => False) = cs6_0K False rqP faP rmP c who x seen cap mm K := by kernel_rfl

theorem cs7_0_ev (c : PCfg) (who : Int) (x : PComp) (seen : PSeenL) (cap : Nat) (mm : PMem) (K : PComp → Nat → PMem → Prop) : evF Tryz.prog ownK4 10 20 19 [.c (.ptr 0 0), envV c 2 who] ⟨cat [(true, .comp ({ x with pc := 7, seen := some seen, m := none, a := none, s := none }) cap), (false, .mem mm)] 0, []⟩ (fun v H₁ => match v with | .tup [] => (shComp H₁ 0 fun x' cap' c' => shF H₁ 2 fun o c2 => match o with | .mem m' => (match chkAll [(true, .comp ({ x with pc := 7, seen := some seen, m := none, a := none, s := none }) cap), (false, .mem mm)] [c', c2] [] with | true => K x' cap' m' | false => False) | _ => False) | _ => False) = cs7_0K False rqP faP rmP c who x seen cap mm K := by kernel_rfl

theorem cs8_0_ev (c : PCfg) (who : Int) (x : PComp) (seen : PSeenL) (cap : Nat) (mm : PMem) (K : PComp → Nat → PMem → Prop) : evF Tryz.prog ownK4 10 20 19 [.c (.ptr 0 0), envV c 2 who] ⟨cat [(true, .comp ({ x with pc := 8, seen := some seen, m := none, a := none, s := none }) cap), (false, .mem mm)] 0, []⟩ (fun v H₁ => match v with | .tup [] => (shComp H₁ 0 fun x' cap' c' => shF H₁ 2 fun o c2 => match o with | .mem m' => (match chkAll [(true, .comp ({ x with pc := 8, seen := some seen, m := none, a := none, s := none }) cap), (false, .mem mm)] [c', c2] [] with | true => K x' cap' m' | false => False) | _ => False) | _ => False) = cs8_0K False rqP faP rmP c who x seen cap mm K := by kernel_rfl

theorem cs9_0_ev (c : PCfg) (who : Int) (x : PComp) (seen : PSeenL) (cap : Nat) (mm : PMem) (K : PComp → Nat → PMem → Prop) : evF Tryz.prog ownK4 10 20 19 [.c (.ptr 0 0), envV c 2 who] ⟨cat [(true, .comp ({ x with pc := 9, seen := some seen, m := none, a := none, s := none }) cap), (false, .mem mm)] 0, []⟩ (fun v H₁ => match v with | .tup [] => (shComp H₁ 0 fun x' cap' c' => shF H₁ 2 fun o c2 => match o with | .mem m' => (match chkAll [(true, .comp ({ x with pc := 9, seen := some seen, m := none, a := none, s := none }) cap), (false, .mem mm)] [c', c2] [] with | true => K x' cap' m' | false => False) | _ => False) | _ => False) = cs9_0K False rqP faP rmP c who x seen cap mm K := by kernel_rfl

theorem cs10_0_ev (c : PCfg) (who : Int) (x : PComp) (seen : PSeenL) (cap : Nat) (mm : PMem) (K : PComp → Nat → PMem → Prop) : evF Tryz.prog ownK4 10 20 19 [.c (.ptr 0 0), envV c 2 who] ⟨cat [(true, .comp ({ x with pc := 10, seen := some seen, m := none, a := none, s := none }) cap), (false, .mem mm)] 0, []⟩ (fun v H₁ => match v with | .tup [] => (shComp H₁ 0 fun x' cap' c' => shF H₁ 2 fun o c2 => match o with | .mem m' => (match chkAll [(true, .comp ({ x with pc := 10, seen := some seen, m := none, a := none, s := none }) cap), (false, .mem mm)] [c', c2] [] with | true => K x' cap' m' | false => False) | _ => False) | _ => False) = cs10_0K False rqP faP rmP c who x seen cap mm K := by kernel_rfl

theorem cs11_0_ev (c : PCfg) (who : Int) (x : PComp) (seen : PSeenL) (cap : Nat) (mm : PMem) (K : PComp → Nat → PMem → Prop) : evF Tryz.prog ownK4 10 20 19 [.c (.ptr 0 0), envV c 2 who] ⟨cat [(true, .comp ({ x with pc := 11, seen := some seen, m := none, a := none, s := none }) cap), (false, .mem mm)] 0, []⟩ (fun v H₁ => match v with | .tup [] => (shComp H₁ 0 fun x' cap' c' => shF H₁ 2 fun o c2 => match o with | .mem m' => (match chkAll [(true, .comp ({ x with pc := 11, seen := some seen, m := none, a := none, s := none }) cap), (false, .mem mm)] [c', c2] [] with | true => K x' cap' m' | false => False) | _ => False) | _ => False) = cs11_0K False rqP faP rmP c who x seen cap mm K := by kernel_rfl

theorem csA_0_ev (c : PCfg) (who : Int) (x : PComp) (seen : PSeenL) (a : PAdv) (cap : Nat) (mm : PMem) (K : PComp → Nat → PMem → Prop) : evF Tryz.prog ownK4 10 20 19 [.c (.ptr 0 0), envV c 3 who] ⟨cat [(true, .comp ({ x with pc := 10, seen := some seen, m := none, a := some a, s := none }) cap), (false, .mem mm)] 0, []⟩ (fun v H₁ => match v with | .tup [] => (shComp H₁ 0 fun x' cap' c' => shF H₁ 3 fun o c2 => match o with | .mem m' => (match chkAll [(true, .comp ({ x with pc := 10, seen := some seen, m := none, a := some a, s := none }) cap), (false, .mem mm)] [c', c2] [] with | true => K x' cap' m' | false => False) | _ => False) | _ => False) = csA_0K False rqP faP rmP c who x seen a cap mm K := by kernel_rfl

theorem csS_0_ev (c : PCfg) (who : Int) (x : PComp) (seen : PSeenL) (s : PSettle) (cap : Nat) (mm : PMem) (K : PComp → Nat → PMem → Prop) : evF Tryz.prog ownK4 10 20 19 [.c (.ptr 0 0), envV c 3 who] ⟨cat [(true, .comp ({ x with pc := 11, seen := some seen, m := none, a := none, s := some s }) cap), (false, .mem mm)] 0, []⟩ (fun v H₁ => match v with | .tup [] => (shComp H₁ 0 fun x' cap' c' => shF H₁ 3 fun o c2 => match o with | .mem m' => (match chkAll [(true, .comp ({ x with pc := 11, seen := some seen, m := none, a := none, s := some s }) cap), (false, .mem mm)] [c', c2] [] with | true => K x' cap' m' | false => False) | _ => False) | _ => False) = csS_0K False rqP faP rmP c who x seen s cap mm K := by kernel_rfl

theorem cs0_1_ev (c : PCfg) (who : Int) (x : PComp) (seen : PSeenL) (m : PMove) (cap : Nat) (mm : PMem) (K : PComp → Nat → PMem → Prop) : evF Tryz.prog ownK4 10 20 19 [.c (.ptr 0 0), envV c 3 who] ⟨cat [(true, .comp ({ x with pc := 0, seen := some seen, m := some m, a := none, s := none }) cap), (false, .mem mm)] 0, []⟩ (fun v H₁ => match v with | .tup [] => (shComp H₁ 0 fun x' cap' c' => shF H₁ 3 fun o c2 => match o with | .mem m' => (match chkAll [(true, .comp ({ x with pc := 0, seen := some seen, m := some m, a := none, s := none }) cap), (false, .mem mm)] [c', c2] [] with | true => K x' cap' m' | false => False) | _ => False) | _ => False) = cs0_1K False rqP faP rmP c who x seen m cap mm K := by kernel_rfl

theorem cs1_1_ev (c : PCfg) (who : Int) (x : PComp) (seen : PSeenL) (m : PMove) (cap : Nat) (mm : PMem) (K : PComp → Nat → PMem → Prop) : evF Tryz.prog ownK4 10 20 19 [.c (.ptr 0 0), envV c 3 who] ⟨cat [(true, .comp ({ x with pc := 1, seen := some seen, m := some m, a := none, s := none }) cap), (false, .mem mm)] 0, []⟩ (fun v H₁ => match v with | .tup [] => (shComp H₁ 0 fun x' cap' c' => shF H₁ 3 fun o c2 => match o with | .mem m' => (match chkAll [(true, .comp ({ x with pc := 1, seen := some seen, m := some m, a := none, s := none }) cap), (false, .mem mm)] [c', c2] [] with | true => K x' cap' m' | false => False) | _ => False) | _ => False) = cs1_1K False rqP faP rmP c who x seen m cap mm K := by kernel_rfl

theorem cs2_1_ev (c : PCfg) (who : Int) (x : PComp) (seen : PSeenL) (m : PMove) (cap : Nat) (mm : PMem) (K : PComp → Nat → PMem → Prop) : evF Tryz.prog ownK4 10 20 19 [.c (.ptr 0 0), envV c 3 who] ⟨cat [(true, .comp ({ x with pc := 2, seen := some seen, m := some m, a := none, s := none }) cap), (false, .mem mm)] 0, []⟩ (fun v H₁ => match v with | .tup [] => (shComp H₁ 0 fun x' cap' c' => shF H₁ 3 fun o c2 => match o with | .mem m' => (match chkAll [(true, .comp ({ x with pc := 2, seen := some seen, m := some m, a := none, s := none }) cap), (false, .mem mm)] [c', c2] [] with | true => K x' cap' m' | false => False) | _ => False) | _ => False) = cs2_1K False rqP faP rmP c who x seen m cap mm K := by kernel_rfl

theorem cs3_1_ev (c : PCfg) (who : Int) (x : PComp) (seen : PSeenL) (m : PMove) (cap : Nat) (mm : PMem) (K : PComp → Nat → PMem → Prop) : evF Tryz.prog ownK4 10 20 19 [.c (.ptr 0 0), envV c 3 who] ⟨cat [(true, .comp ({ x with pc := 3, seen := some seen, m := some m, a := none, s := none }) cap), (false, .mem mm)] 0, []⟩ (fun v H₁ => match v with | .tup [] => (shComp H₁ 0 fun x' cap' c' => shF H₁ 3 fun o c2 => match o with | .mem m' => (match chkAll [(true, .comp ({ x with pc := 3, seen := some seen, m := some m, a := none, s := none }) cap), (false, .mem mm)] [c', c2] [] with | true => K x' cap' m' | false => False) | _ => False) | _ => False) = cs3_1K False rqP faP rmP c who x seen m cap mm K := by kernel_rfl

theorem cs4_1_ev (c : PCfg) (who : Int) (x : PComp) (seen : PSeenL) (m : PMove) (cap : Nat) (mm : PMem) (K : PComp → Nat → PMem → Prop) : evF Tryz.prog ownK4 10 20 19 [.c (.ptr 0 0), envV c 3 who] ⟨cat [(true, .comp ({ x with pc := 4, seen := some seen, m := some m, a := none, s := none }) cap), (false, .mem mm)] 0, []⟩ (fun v H₁ => match v with | .tup [] => (shComp H₁ 0 fun x' cap' c' => shF H₁ 3 fun o c2 => match o with | .mem m' => (match chkAll [(true, .comp ({ x with pc := 4, seen := some seen, m := some m, a := none, s := none }) cap), (false, .mem mm)] [c', c2] [] with | true => K x' cap' m' | false => False) | _ => False) | _ => False) = cs4_1K False rqP faP rmP c who x seen m cap mm K := by kernel_rfl

theorem cs5_1_ev (c : PCfg) (who : Int) (x : PComp) (seen : PSeenL) (m : PMove) (cap : Nat) (mm : PMem) (K : PComp → Nat → PMem → Prop) : evF Tryz.prog ownK4 10 20 19 [.c (.ptr 0 0), envV c 3 who] ⟨cat [(true, .comp ({ x with pc := 5, seen := some seen, m := some m, a := none, s := none }) cap), (false, .mem mm)] 0, []⟩ (fun v H₁ => match v with | .tup [] => (shComp H₁ 0 fun x' cap' c' => shF H₁ 3 fun o c2 => match o with | .mem m' => (match chkAll [(true, .comp ({ x with pc := 5, seen := some seen, m := some m, a := none, s := none }) cap), (false, .mem mm)] [c', c2] [] with | true => K x' cap' m' | false => False) | _ => False) | _ => False) = cs5_1K False rqP faP rmP c who x seen m cap mm K := by kernel_rfl

theorem cs6_1_ev (c : PCfg) (who : Int) (x : PComp) (seen : PSeenL) (m : PMove) (cap : Nat) (mm : PMem) (K : PComp → Nat → PMem → Prop) : evF Tryz.prog ownK4 10 20 19 [.c (.ptr 0 0), envV c 3 who] ⟨cat [(true, .comp ({ x with pc := 6, seen := some seen, m := some m, a := none, s := none }) cap), (false, .mem mm)] 0, []⟩ (fun v H₁ => match v with | .tup [] => (shComp H₁ 0 fun x' cap' c' => shF H₁ 3 fun o c2 => match o with | .mem m' => (match chkAll [(true, .comp ({ x with pc := 6, seen := some seen, m := some m, a := none, s := none }) cap), (false, .mem mm)] [c', c2] [] with | true => K x' cap' m' | false => False) | _ => False) | _ => False) = cs6_1K False rqP faP rmP c who x seen m cap mm K := by kernel_rfl

theorem cs7_1_ev (c : PCfg) (who : Int) (x : PComp) (seen : PSeenL) (m : PMove) (cap : Nat) (mm : PMem) (K : PComp → Nat → PMem → Prop) : evF Tryz.prog ownK4 10 20 19 [.c (.ptr 0 0), envV c 3 who] ⟨cat [(true, .comp ({ x with pc := 7, seen := some seen, m := some m, a := none, s := none }) cap), (false, .mem mm)] 0, []⟩ (fun v H₁ => match v with | .tup [] => (shComp H₁ 0 fun x' cap' c' => shF H₁ 3 fun o c2 => match o with | .mem m' => (match chkAll [(true, .comp ({ x with pc := 7, seen := some seen, m := some m, a := none, s := none }) cap), (false, .mem mm)] [c', c2] [] with | true => K x' cap' m' | false => False) | _ => False) | _ => False) = cs7_1K False rqP faP rmP c who x seen m cap mm K := by kernel_rfl

theorem cs8_1_ev (c : PCfg) (who : Int) (x : PComp) (seen : PSeenL) (m : PMove) (cap : Nat) (mm : PMem) (K : PComp → Nat → PMem → Prop) : evF Tryz.prog ownK4 10 20 19 [.c (.ptr 0 0), envV c 3 who] ⟨cat [(true, .comp ({ x with pc := 8, seen := some seen, m := some m, a := none, s := none }) cap), (false, .mem mm)] 0, []⟩ (fun v H₁ => match v with | .tup [] => (shComp H₁ 0 fun x' cap' c' => shF H₁ 3 fun o c2 => match o with | .mem m' => (match chkAll [(true, .comp ({ x with pc := 8, seen := some seen, m := some m, a := none, s := none }) cap), (false, .mem mm)] [c', c2] [] with | true => K x' cap' m' | false => False) | _ => False) | _ => False) = cs8_1K False rqP faP rmP c who x seen m cap mm K := by kernel_rfl

theorem cs9_1_ev (c : PCfg) (who : Int) (x : PComp) (seen : PSeenL) (m : PMove) (cap : Nat) (mm : PMem) (K : PComp → Nat → PMem → Prop) : evF Tryz.prog ownK4 10 20 19 [.c (.ptr 0 0), envV c 3 who] ⟨cat [(true, .comp ({ x with pc := 9, seen := some seen, m := some m, a := none, s := none }) cap), (false, .mem mm)] 0, []⟩ (fun v H₁ => match v with | .tup [] => (shComp H₁ 0 fun x' cap' c' => shF H₁ 3 fun o c2 => match o with | .mem m' => (match chkAll [(true, .comp ({ x with pc := 9, seen := some seen, m := some m, a := none, s := none }) cap), (false, .mem mm)] [c', c2] [] with | true => K x' cap' m' | false => False) | _ => False) | _ => False) = cs9_1K False rqP faP rmP c who x seen m cap mm K := by kernel_rfl

theorem cs10_1_ev (c : PCfg) (who : Int) (x : PComp) (seen : PSeenL) (m : PMove) (cap : Nat) (mm : PMem) (K : PComp → Nat → PMem → Prop) : evF Tryz.prog ownK4 10 20 19 [.c (.ptr 0 0), envV c 3 who] ⟨cat [(true, .comp ({ x with pc := 10, seen := some seen, m := some m, a := none, s := none }) cap), (false, .mem mm)] 0, []⟩ (fun v H₁ => match v with | .tup [] => (shComp H₁ 0 fun x' cap' c' => shF H₁ 3 fun o c2 => match o with | .mem m' => (match chkAll [(true, .comp ({ x with pc := 10, seen := some seen, m := some m, a := none, s := none }) cap), (false, .mem mm)] [c', c2] [] with | true => K x' cap' m' | false => False) | _ => False) | _ => False) = cs10_1K False rqP faP rmP c who x seen m cap mm K := by kernel_rfl

theorem cs11_1_ev (c : PCfg) (who : Int) (x : PComp) (seen : PSeenL) (m : PMove) (cap : Nat) (mm : PMem) (K : PComp → Nat → PMem → Prop) : evF Tryz.prog ownK4 10 20 19 [.c (.ptr 0 0), envV c 3 who] ⟨cat [(true, .comp ({ x with pc := 11, seen := some seen, m := some m, a := none, s := none }) cap), (false, .mem mm)] 0, []⟩ (fun v H₁ => match v with | .tup [] => (shComp H₁ 0 fun x' cap' c' => shF H₁ 3 fun o c2 => match o with | .mem m' => (match chkAll [(true, .comp ({ x with pc := 11, seen := some seen, m := some m, a := none, s := none }) cap), (false, .mem mm)] [c', c2] [] with | true => K x' cap' m' | false => False) | _ => False) | _ => False) = cs11_1K False rqP faP rmP c who x seen m cap mm K := by kernel_rfl

theorem csA_1_ev (c : PCfg) (who : Int) (x : PComp) (seen : PSeenL) (m : PMove) (a : PAdv) (cap : Nat) (mm : PMem) (K : PComp → Nat → PMem → Prop) : evF Tryz.prog ownK4 10 20 19 [.c (.ptr 0 0), envV c 4 who] ⟨cat [(true, .comp ({ x with pc := 10, seen := some seen, m := some m, a := some a, s := none }) cap), (false, .mem mm)] 0, []⟩ (fun v H₁ => match v with | .tup [] => (shComp H₁ 0 fun x' cap' c' => shF H₁ 4 fun o c2 => match o with | .mem m' => (match chkAll [(true, .comp ({ x with pc := 10, seen := some seen, m := some m, a := some a, s := none }) cap), (false, .mem mm)] [c', c2] [] with | true => K x' cap' m' | false => False) | _ => False) | _ => False) = csA_1K False rqP faP rmP c who x seen m a cap mm K := by kernel_rfl

theorem csS_1_ev (c : PCfg) (who : Int) (x : PComp) (seen : PSeenL) (m : PMove) (s : PSettle) (cap : Nat) (mm : PMem) (K : PComp → Nat → PMem → Prop) : evF Tryz.prog ownK4 10 20 19 [.c (.ptr 0 0), envV c 4 who] ⟨cat [(true, .comp ({ x with pc := 11, seen := some seen, m := some m, a := none, s := some s }) cap), (false, .mem mm)] 0, []⟩ (fun v H₁ => match v with | .tup [] => (shComp H₁ 0 fun x' cap' c' => shF H₁ 4 fun o c2 => match o with | .mem m' => (match chkAll [(true, .comp ({ x with pc := 11, seen := some seen, m := some m, a := none, s := some s }) cap), (false, .mem mm)] [c', c2] [] with | true => K x' cap' m' | false => False) | _ => False) | _ => False) = csS_1K False rqP faP rmP c who x seen m s cap mm K := by kernel_rfl

theorem comp_use {H : LH} {K : LV → LH → Prop} {p m : Nat} {x : PComp} {cap : Nat} {pm : PMem} {c : PCfg} {who : Int}
    (hp : H.get p = some (.obj (.comp x cap))) (hm : H.get m = some (.obj (.mem pm)))
    (hev : evF Tryz.prog ownK4 10 20 19 [.c (.ptr 0 0), envV c (llen (ex (.comp x cap))) who] ⟨cat [(true, .comp x cap), (false, .mem pm)] 0, []⟩ (fun v H₁ => match v with
      | .tup [] => shComp H₁ 0 fun x' cap' c => shF H₁ (llen (ex (.comp x cap))) fun o c2 => match o with
        | .mem pm' => match chkAll [(true, .comp x cap), (false, .mem pm)] [c, c2] [] with
          | true => K (.tup []) ((H.put p (.obj (.comp x' cap'))).put m (.obj (.mem pm')))
          | false => False
        | _ => False
      | _ => False)) :
    (∃ fn, Tryz.prog.funcs[19]? = some fn ∧ fn.body.isSome = true) ∧ CSpec Tryz.prog 19 [.c (.ptr p 0), envV c m who] H K := by
  have hpm : p ≠ m := by
    rintro rfl
    rw [hp] at hm
    injection hm with hm; injection hm with hm; cases hm
  refine objs_ok ownK4_ok (ns := [p, m]) (xs := [(true, .comp x cap), (false, .mem pm)]) rfl ?_ (by simpa using hpm) ?_ hev ?_
  · intro i n x' hi hx
    match i, hi, hx with
    | 0, hi, hx => simp at hi hx; subst hi; subst hx; exact get_obj hp
    | 1, hi, hx => simp at hi hx; subst hi; subst hx; exact get_obj hm
    | i + 2, hi, hx => simp at hi
  · intro s s₁ vs hh hr
    match vs, hr with
    | [u, v], ⟨h1, h2, _⟩ =>
      have e0 := hh 0 p rfl
      have e1 := hh 1 m rfl
      simp only [base, Nat.zero_add] at e0 e1
      refine ⟨rel_ptr e0 h1, rel_env ?_ h2, trivial⟩
      rw [llen_eq]
      exact e1
    | [], h => exact h.elim
    | [_], h => exact h.2.elim
    | _ :: _ :: _ :: _, h => exact h.2.2.elim
  · intro v₁ H₁ hk
    split at hk
    · obtain ⟨x', cap', c1, hk, hc1⟩ := shComp_ok hk
      obtain ⟨o, c2, hk, hc2⟩ := shF_ok hk
      split at hk
      · rename_i pm'
        split at hk
        · rename_i hchk
          exact ⟨[c1, c2], [(true, .comp x' cap'), (false, .mem pm')], [], [], .tup [], hchk, ⟨hc1, hc2, trivial⟩, trivial, fun _ _ _ _ _ h => RelV.low rfl h, hk⟩
        · exact hk.elim
      · exact hk.elim
    · exact hk.elim

theorem csStart_use {H : LH} {K : LV → LH → Prop} {p mn cap : Nat} {pm : PMem} {c : PCfg} {who : Int} (x : PComp) (hp : H.get p = some (.obj (.comp ({ x with pc := 0, seen := none, m := none, a := none, s := none }) cap))) (hm : H.get mn = some (.obj (.mem pm)))
    (ha : appC (fun x' cap' pm' => K (.tup []) ((H.put p (.obj (.comp x' cap'))).put mn (.obj (.mem pm')))) (csStart c who x pm)) : (∃ fn, Tryz.prog.funcs[19]? = some fn ∧ fn.body.isSome = true) ∧ CSpec Tryz.prog 19 [.c (.ptr p 0), envV c mn who] H K :=
  comp_use hp hm ((csStart_ev c who x cap pm _).mpr (csStartK_of _ _ _ cap _ ha))

theorem cs0_0_use {H : LH} {K : LV → LH → Prop} {p mn cap : Nat} {pm : PMem} {c : PCfg} {who : Int} (x : PComp) (seen : PSeenL) (hp : H.get p = some (.obj (.comp ({ x with pc := 0, seen := some seen, m := none, a := none, s := none }) cap))) (hm : H.get mn = some (.obj (.mem pm))) (hlen : seen.len ≤ 1048576)
    (ha : appC (fun x' cap' pm' => K (.tup []) ((H.put p (.obj (.comp x' cap'))).put mn (.obj (.mem pm')))) (cs0_0 c who x seen pm)) : (∃ fn, Tryz.prog.funcs[19]? = some fn ∧ fn.body.isSome = true) ∧ CSpec Tryz.prog 19 [.c (.ptr p 0), envV c mn who] H K :=
  comp_use hp hm ((cs0_0_ev c who x seen cap pm _).mpr (cs0_0K_of _ _ _ _ cap _ hlen ha))

theorem cs1_0_use {H : LH} {K : LV → LH → Prop} {p mn cap : Nat} {pm : PMem} {c : PCfg} {who : Int} (x : PComp) (seen : PSeenL) (hp : H.get p = some (.obj (.comp ({ x with pc := 1, seen := some seen, m := none, a := none, s := none }) cap))) (hm : H.get mn = some (.obj (.mem pm))) (hlen : seen.len ≤ 1048576)
    (ha : appC (fun x' cap' pm' => K (.tup []) ((H.put p (.obj (.comp x' cap'))).put mn (.obj (.mem pm')))) (cs1_0 c who x seen pm)) : (∃ fn, Tryz.prog.funcs[19]? = some fn ∧ fn.body.isSome = true) ∧ CSpec Tryz.prog 19 [.c (.ptr p 0), envV c mn who] H K :=
  comp_use hp hm ((cs1_0_ev c who x seen cap pm _).mpr (cs1_0K_of _ _ _ _ cap _ hlen ha))

theorem cs2_0_use {H : LH} {K : LV → LH → Prop} {p mn cap : Nat} {pm : PMem} {c : PCfg} {who : Int} (x : PComp) (seen : PSeenL) (hp : H.get p = some (.obj (.comp ({ x with pc := 2, seen := some seen, m := none, a := none, s := none }) cap))) (hm : H.get mn = some (.obj (.mem pm))) (hlen : seen.len ≤ 1048576)
    (ha : appC (fun x' cap' pm' => K (.tup []) ((H.put p (.obj (.comp x' cap'))).put mn (.obj (.mem pm')))) (cs2_0 c who x seen pm)) : (∃ fn, Tryz.prog.funcs[19]? = some fn ∧ fn.body.isSome = true) ∧ CSpec Tryz.prog 19 [.c (.ptr p 0), envV c mn who] H K :=
  comp_use hp hm ((cs2_0_ev c who x seen cap pm _).mpr (cs2_0K_of _ _ _ _ cap _ hlen ha))

theorem cs3_0_use {H : LH} {K : LV → LH → Prop} {p mn cap : Nat} {pm : PMem} {c : PCfg} {who : Int} (x : PComp) (seen : PSeenL) (hp : H.get p = some (.obj (.comp ({ x with pc := 3, seen := some seen, m := none, a := none, s := none }) cap))) (hm : H.get mn = some (.obj (.mem pm))) (hlen : seen.len ≤ 1048576)
    (ha : appC (fun x' cap' pm' => K (.tup []) ((H.put p (.obj (.comp x' cap'))).put mn (.obj (.mem pm')))) (cs3_0 c who x seen pm)) : (∃ fn, Tryz.prog.funcs[19]? = some fn ∧ fn.body.isSome = true) ∧ CSpec Tryz.prog 19 [.c (.ptr p 0), envV c mn who] H K :=
  comp_use hp hm ((cs3_0_ev c who x seen cap pm _).mpr (cs3_0K_of _ _ _ _ cap _ hlen ha))

theorem cs4_0_use {H : LH} {K : LV → LH → Prop} {p mn cap : Nat} {pm : PMem} {c : PCfg} {who : Int} (x : PComp) (seen : PSeenL) (hp : H.get p = some (.obj (.comp ({ x with pc := 4, seen := some seen, m := none, a := none, s := none }) cap))) (hm : H.get mn = some (.obj (.mem pm))) (hlen : seen.len ≤ 1048576)
    (ha : appC (fun x' cap' pm' => K (.tup []) ((H.put p (.obj (.comp x' cap'))).put mn (.obj (.mem pm')))) (cs4_0 c who x seen pm)) : (∃ fn, Tryz.prog.funcs[19]? = some fn ∧ fn.body.isSome = true) ∧ CSpec Tryz.prog 19 [.c (.ptr p 0), envV c mn who] H K :=
  comp_use hp hm ((cs4_0_ev c who x seen cap pm _).mpr (cs4_0K_of _ _ _ _ cap _ hlen ha))

theorem cs5_0_use {H : LH} {K : LV → LH → Prop} {p mn cap : Nat} {pm : PMem} {c : PCfg} {who : Int} (x : PComp) (seen : PSeenL) (hp : H.get p = some (.obj (.comp ({ x with pc := 5, seen := some seen, m := none, a := none, s := none }) cap))) (hm : H.get mn = some (.obj (.mem pm))) (hlen : seen.len ≤ 1048576)
    (ha : appC (fun x' cap' pm' => K (.tup []) ((H.put p (.obj (.comp x' cap'))).put mn (.obj (.mem pm')))) (cs5_0 c who x seen pm)) : (∃ fn, Tryz.prog.funcs[19]? = some fn ∧ fn.body.isSome = true) ∧ CSpec Tryz.prog 19 [.c (.ptr p 0), envV c mn who] H K :=
  comp_use hp hm ((cs5_0_ev c who x seen cap pm _).mpr (cs5_0K_of _ _ _ _ cap _ hlen ha))

theorem cs6_0_use {H : LH} {K : LV → LH → Prop} {p mn cap : Nat} {pm : PMem} {c : PCfg} {who : Int} (x : PComp) (seen : PSeenL) (hp : H.get p = some (.obj (.comp ({ x with pc := 6, seen := some seen, m := none, a := none, s := none }) cap))) (hm : H.get mn = some (.obj (.mem pm))) (hlen : seen.len ≤ 1048576)
    (ha : appC (fun x' cap' pm' => K (.tup []) ((H.put p (.obj (.comp x' cap'))).put mn (.obj (.mem pm')))) (cs6_0 c who x seen pm)) : (∃ fn, Tryz.prog.funcs[19]? = some fn ∧ fn.body.isSome = true) ∧ CSpec Tryz.prog 19 [.c (.ptr p 0), envV c mn who] H K :=
  comp_use hp hm ((cs6_0_ev c who x seen cap pm _).mpr (cs6_0K_of _ _ _ _ cap _ hlen ha))

theorem cs7_0_use {H : LH} {K : LV → LH → Prop} {p mn cap : Nat} {pm : PMem} {c : PCfg} {who : Int} (x : PComp) (seen : PSeenL) (hp : H.get p = some (.obj (.comp ({ x with pc := 7, seen := some seen, m := none, a := none, s := none }) cap))) (hm : H.get mn = some (.obj (.mem pm))) (hlen : seen.len ≤ 1048576)
    (ha : appC (fun x' cap' pm' => K (.tup []) ((H.put p (.obj (.comp x' cap'))).put mn (.obj (.mem pm')))) (cs7_0 c who x seen pm)) : (∃ fn, Tryz.prog.funcs[19]? = some fn ∧ fn.body.isSome = true) ∧ CSpec Tryz.prog 19 [.c (.ptr p 0), envV c mn who] H K :=
  comp_use hp hm ((cs7_0_ev c who x seen cap pm _).mpr (cs7_0K_of _ _ _ _ cap _ hlen ha))

theorem cs8_0_use {H : LH} {K : LV → LH → Prop} {p mn cap : Nat} {pm : PMem} {c : PCfg} {who : Int} (x : PComp) (seen : PSeenL) (hp : H.get p = some (.obj (.comp ({ x with pc := 8, seen := some seen, m := none, a := none, s := none }) cap))) (hm : H.get mn = some (.obj (.mem pm))) (hlen : seen.len ≤ 1048576)
    (ha : appC (fun x' cap' pm' => K (.tup []) ((H.put p (.obj (.comp x' cap'))).put mn (.obj (.mem pm')))) (cs8_0 c who x seen pm)) : (∃ fn, Tryz.prog.funcs[19]? = some fn ∧ fn.body.isSome = true) ∧ CSpec Tryz.prog 19 [.c (.ptr p 0), envV c mn who] H K :=
  comp_use hp hm ((cs8_0_ev c who x seen cap pm _).mpr (cs8_0K_of _ _ _ _ cap _ hlen ha))

theorem cs9_0_use {H : LH} {K : LV → LH → Prop} {p mn cap : Nat} {pm : PMem} {c : PCfg} {who : Int} (x : PComp) (seen : PSeenL) (hp : H.get p = some (.obj (.comp ({ x with pc := 9, seen := some seen, m := none, a := none, s := none }) cap))) (hm : H.get mn = some (.obj (.mem pm))) (hlen : seen.len ≤ 1048576)
    (ha : appC (fun x' cap' pm' => K (.tup []) ((H.put p (.obj (.comp x' cap'))).put mn (.obj (.mem pm')))) (cs9_0 c who x seen pm)) : (∃ fn, Tryz.prog.funcs[19]? = some fn ∧ fn.body.isSome = true) ∧ CSpec Tryz.prog 19 [.c (.ptr p 0), envV c mn who] H K :=
  comp_use hp hm ((cs9_0_ev c who x seen cap pm _).mpr (cs9_0K_of _ _ _ _ cap _ hlen ha))

theorem cs10_0_use {H : LH} {K : LV → LH → Prop} {p mn cap : Nat} {pm : PMem} {c : PCfg} {who : Int} (x : PComp) (seen : PSeenL) (hp : H.get p = some (.obj (.comp ({ x with pc := 10, seen := some seen, m := none, a := none, s := none }) cap))) (hm : H.get mn = some (.obj (.mem pm))) (hlen : seen.len ≤ 1048576)
    (ha : appC (fun x' cap' pm' => K (.tup []) ((H.put p (.obj (.comp x' cap'))).put mn (.obj (.mem pm')))) (cs10_0 c who x seen pm)) : (∃ fn, Tryz.prog.funcs[19]? = some fn ∧ fn.body.isSome = true) ∧ CSpec Tryz.prog 19 [.c (.ptr p 0), envV c mn who] H K :=
  comp_use hp hm ((cs10_0_ev c who x seen cap pm _).mpr (cs10_0K_of _ _ _ _ cap _ hlen ha))

theorem cs11_0_use {H : LH} {K : LV → LH → Prop} {p mn cap : Nat} {pm : PMem} {c : PCfg} {who : Int} (x : PComp) (seen : PSeenL) (hp : H.get p = some (.obj (.comp ({ x with pc := 11, seen := some seen, m := none, a := none, s := none }) cap))) (hm : H.get mn = some (.obj (.mem pm))) (hlen : seen.len ≤ 1048576)
    (ha : appC (fun x' cap' pm' => K (.tup []) ((H.put p (.obj (.comp x' cap'))).put mn (.obj (.mem pm')))) (cs11_0 c who x seen pm)) : (∃ fn, Tryz.prog.funcs[19]? = some fn ∧ fn.body.isSome = true) ∧ CSpec Tryz.prog 19 [.c (.ptr p 0), envV c mn who] H K :=
  comp_use hp hm ((cs11_0_ev c who x seen cap pm _).mpr (cs11_0K_of _ _ _ _ cap _ hlen ha))

theorem csA_0_use {H : LH} {K : LV → LH → Prop} {p mn cap : Nat} {pm : PMem} {c : PCfg} {who : Int} (x : PComp) (seen : PSeenL) (a : PAdv) (hp : H.get p = some (.obj (.comp ({ x with pc := 10, seen := some seen, m := none, a := some a, s := none }) cap))) (hm : H.get mn = some (.obj (.mem pm))) (hlen : seen.len ≤ 1048576)
    (ha : appC (fun x' cap' pm' => K (.tup []) ((H.put p (.obj (.comp x' cap'))).put mn (.obj (.mem pm')))) (csA_0 c who x seen a pm)) : (∃ fn, Tryz.prog.funcs[19]? = some fn ∧ fn.body.isSome = true) ∧ CSpec Tryz.prog 19 [.c (.ptr p 0), envV c mn who] H K :=
  comp_use hp hm ((csA_0_ev c who x seen a cap pm _).mpr (csA_0K_of _ _ _ _ _ cap _ hlen ha))

theorem csS_0_use {H : LH} {K : LV → LH → Prop} {p mn cap : Nat} {pm : PMem} {c : PCfg} {who : Int} (x : PComp) (seen : PSeenL) (s : PSettle) (hp : H.get p = some (.obj (.comp ({ x with pc := 11, seen := some seen, m := none, a := none, s := some s }) cap))) (hm : H.get mn = some (.obj (.mem pm))) (hlen : seen.len ≤ 1048576)
    (ha : appC (fun x' cap' pm' => K (.tup []) ((H.put p (.obj (.comp x' cap'))).put mn (.obj (.mem pm')))) (csS_0 c who x seen s pm)) : (∃ fn, Tryz.prog.funcs[19]? = some fn ∧ fn.body.isSome = true) ∧ CSpec Tryz.prog 19 [.c (.ptr p 0), envV c mn who] H K :=
  comp_use hp hm ((csS_0_ev c who x seen s cap pm _).mpr (csS_0K_of _ _ _ _ _ cap _ hlen ha))

theorem cs0_1_use {H : LH} {K : LV → LH → Prop} {p mn cap : Nat} {pm : PMem} {c : PCfg} {who : Int} (x : PComp) (seen : PSeenL) (m : PMove) (hp : H.get p = some (.obj (.comp ({ x with pc := 0, seen := some seen, m := some m, a := none, s := none }) cap))) (hm : H.get mn = some (.obj (.mem pm))) (hlen : seen.len ≤ 1048576)
    (ha : appC (fun x' cap' pm' => K (.tup []) ((H.put p (.obj (.comp x' cap'))).put mn (.obj (.mem pm')))) (cs0_1 c who x seen m pm)) : (∃ fn, Tryz.prog.funcs[19]? = some fn ∧ fn.body.isSome = true) ∧ CSpec Tryz.prog 19 [.c (.ptr p 0), envV c mn who] H K :=
  comp_use hp hm ((cs0_1_ev c who x seen m cap pm _).mpr (cs0_1K_of _ _ _ _ _ cap _ hlen ha))

theorem cs1_1_use {H : LH} {K : LV → LH → Prop} {p mn cap : Nat} {pm : PMem} {c : PCfg} {who : Int} (x : PComp) (seen : PSeenL) (m : PMove) (hp : H.get p = some (.obj (.comp ({ x with pc := 1, seen := some seen, m := some m, a := none, s := none }) cap))) (hm : H.get mn = some (.obj (.mem pm))) (hlen : seen.len ≤ 1048576)
    (ha : appC (fun x' cap' pm' => K (.tup []) ((H.put p (.obj (.comp x' cap'))).put mn (.obj (.mem pm')))) (cs1_1 c who x seen m pm)) : (∃ fn, Tryz.prog.funcs[19]? = some fn ∧ fn.body.isSome = true) ∧ CSpec Tryz.prog 19 [.c (.ptr p 0), envV c mn who] H K :=
  comp_use hp hm ((cs1_1_ev c who x seen m cap pm _).mpr (cs1_1K_of _ _ _ _ _ cap _ hlen ha))

theorem cs2_1_use {H : LH} {K : LV → LH → Prop} {p mn cap : Nat} {pm : PMem} {c : PCfg} {who : Int} (x : PComp) (seen : PSeenL) (m : PMove) (hp : H.get p = some (.obj (.comp ({ x with pc := 2, seen := some seen, m := some m, a := none, s := none }) cap))) (hm : H.get mn = some (.obj (.mem pm))) (hlen : seen.len ≤ 1048576)
    (ha : appC (fun x' cap' pm' => K (.tup []) ((H.put p (.obj (.comp x' cap'))).put mn (.obj (.mem pm')))) (cs2_1 c who x seen m pm)) : (∃ fn, Tryz.prog.funcs[19]? = some fn ∧ fn.body.isSome = true) ∧ CSpec Tryz.prog 19 [.c (.ptr p 0), envV c mn who] H K :=
  comp_use hp hm ((cs2_1_ev c who x seen m cap pm _).mpr (cs2_1K_of _ _ _ _ _ cap _ hlen ha))

theorem cs3_1_use {H : LH} {K : LV → LH → Prop} {p mn cap : Nat} {pm : PMem} {c : PCfg} {who : Int} (x : PComp) (seen : PSeenL) (m : PMove) (hp : H.get p = some (.obj (.comp ({ x with pc := 3, seen := some seen, m := some m, a := none, s := none }) cap))) (hm : H.get mn = some (.obj (.mem pm))) (hlen : seen.len ≤ 1048576)
    (ha : appC (fun x' cap' pm' => K (.tup []) ((H.put p (.obj (.comp x' cap'))).put mn (.obj (.mem pm')))) (cs3_1 c who x seen m pm)) : (∃ fn, Tryz.prog.funcs[19]? = some fn ∧ fn.body.isSome = true) ∧ CSpec Tryz.prog 19 [.c (.ptr p 0), envV c mn who] H K :=
  comp_use hp hm ((cs3_1_ev c who x seen m cap pm _).mpr (cs3_1K_of _ _ _ _ _ cap _ hlen ha))

theorem cs4_1_use {H : LH} {K : LV → LH → Prop} {p mn cap : Nat} {pm : PMem} {c : PCfg} {who : Int} (x : PComp) (seen : PSeenL) (m : PMove) (hp : H.get p = some (.obj (.comp ({ x with pc := 4, seen := some seen, m := some m, a := none, s := none }) cap))) (hm : H.get mn = some (.obj (.mem pm))) (hlen : seen.len ≤ 1048576)
    (ha : appC (fun x' cap' pm' => K (.tup []) ((H.put p (.obj (.comp x' cap'))).put mn (.obj (.mem pm')))) (cs4_1 c who x seen m pm)) : (∃ fn, Tryz.prog.funcs[19]? = some fn ∧ fn.body.isSome = true) ∧ CSpec Tryz.prog 19 [.c (.ptr p 0), envV c mn who] H K :=
  comp_use hp hm ((cs4_1_ev c who x seen m cap pm _).mpr (cs4_1K_of _ _ _ _ _ cap _ hlen ha))

theorem cs5_1_use {H : LH} {K : LV → LH → Prop} {p mn cap : Nat} {pm : PMem} {c : PCfg} {who : Int} (x : PComp) (seen : PSeenL) (m : PMove) (hp : H.get p = some (.obj (.comp ({ x with pc := 5, seen := some seen, m := some m, a := none, s := none }) cap))) (hm : H.get mn = some (.obj (.mem pm))) (hlen : seen.len ≤ 1048576)
    (ha : appC (fun x' cap' pm' => K (.tup []) ((H.put p (.obj (.comp x' cap'))).put mn (.obj (.mem pm')))) (cs5_1 c who x seen m pm)) : (∃ fn, Tryz.prog.funcs[19]? = some fn ∧ fn.body.isSome = true) ∧ CSpec Tryz.prog 19 [.c (.ptr p 0), envV c mn who] H K :=
  comp_use hp hm ((cs5_1_ev c who x seen m cap pm _).mpr (cs5_1K_of _ _ _ _ _ cap _ hlen ha))

theorem cs6_1_use {H : LH} {K : LV → LH → Prop} {p mn cap : Nat} {pm : PMem} {c : PCfg} {who : Int} (x : PComp) (seen : PSeenL) (m : PMove) (hp : H.get p = some (.obj (.comp ({ x with pc := 6, seen := some seen, m := some m, a := none, s := none }) cap))) (hm : H.get mn = some (.obj (.mem pm))) (hlen : seen.len ≤ 1048576)
    (ha : appC (fun x' cap' pm' => K (.tup []) ((H.put p (.obj (.comp x' cap'))).put mn (.obj (.mem pm')))) (cs6_1 c who x seen m pm)) : (∃ fn, Tryz.prog.funcs[19]? = some fn ∧ fn.body.isSome = true) ∧ CSpec Tryz.prog 19 [.c (.ptr p 0), envV c mn who] H K :=
  comp_use hp hm ((cs6_1_ev c who x seen m cap pm _).mpr (cs6_1K_of _ _ _ _ _ cap _ hlen ha))

theorem cs7_1_use {H : LH} {K : LV → LH → Prop} {p mn cap : Nat} {pm : PMem} {c : PCfg} {who : Int} (x : PComp) (seen : PSeenL) (m : PMove) (hp : H.get p = some (.obj (.comp ({ x with pc := 7, seen := some seen, m := some m, a := none, s := none }) cap))) (hm : H.get mn = some (.obj (.mem pm))) (hlen : seen.len ≤ 1048576)
    (ha : appC (fun x' cap' pm' => K (.tup []) ((H.put p (.obj (.comp x' cap'))).put mn (.obj (.mem pm')))) (cs7_1 c who x seen m pm)) : (∃ fn, Tryz.prog.funcs[19]? = some fn ∧ fn.body.isSome = true) ∧ CSpec Tryz.prog 19 [.c (.ptr p 0), envV c mn who] H K :=
  comp_use hp hm ((cs7_1_ev c who x seen m cap pm _).mpr (cs7_1K_of _ _ _ _ _ cap _ hlen ha))

theorem cs8_1_use {H : LH} {K : LV → LH → Prop} {p mn cap : Nat} {pm : PMem} {c : PCfg} {who : Int} (x : PComp) (seen : PSeenL) (m : PMove) (hp : H.get p = some (.obj (.comp ({ x with pc := 8, seen := some seen, m := some m, a := none, s := none }) cap))) (hm : H.get mn = some (.obj (.mem pm))) (hlen : seen.len ≤ 1048576)
    (ha : appC (fun x' cap' pm' => K (.tup []) ((H.put p (.obj (.comp x' cap'))).put mn (.obj (.mem pm')))) (cs8_1 c who x seen m pm)) : (∃ fn, Tryz.prog.funcs[19]? = some fn ∧ fn.body.isSome = true) ∧ CSpec Tryz.prog 19 [.c (.ptr p 0), envV c mn who] H K :=
  comp_use hp hm ((cs8_1_ev c who x seen m cap pm _).mpr (cs8_1K_of _ _ _ _ _ cap _ hlen ha))

theorem cs9_1_use {H : LH} {K : LV → LH → Prop} {p mn cap : Nat} {pm : PMem} {c : PCfg} {who : Int} (x : PComp) (seen : PSeenL) (m : PMove) (hp : H.get p = some (.obj (.comp ({ x with pc := 9, seen := some seen, m := some m, a := none, s := none }) cap))) (hm : H.get mn = some (.obj (.mem pm))) (hlen : seen.len ≤ 1048576)
    (ha : appC (fun x' cap' pm' => K (.tup []) ((H.put p (.obj (.comp x' cap'))).put mn (.obj (.mem pm')))) (cs9_1 c who x seen m pm)) : (∃ fn, Tryz.prog.funcs[19]? = some fn ∧ fn.body.isSome = true) ∧ CSpec Tryz.prog 19 [.c (.ptr p 0), envV c mn who] H K :=
  comp_use hp hm ((cs9_1_ev c who x seen m cap pm _).mpr (cs9_1K_of _ _ _ _ _ cap _ hlen ha))

theorem cs10_1_use {H : LH} {K : LV → LH → Prop} {p mn cap : Nat} {pm : PMem} {c : PCfg} {who : Int} (x : PComp) (seen : PSeenL) (m : PMove) (hp : H.get p = some (.obj (.comp ({ x with pc := 10, seen := some seen, m := some m, a := none, s := none }) cap))) (hm : H.get mn = some (.obj (.mem pm))) (hlen : seen.len ≤ 1048576)
    (ha : appC (fun x' cap' pm' => K (.tup []) ((H.put p (.obj (.comp x' cap'))).put mn (.obj (.mem pm')))) (cs10_1 c who x seen m pm)) : (∃ fn, Tryz.prog.funcs[19]? = some fn ∧ fn.body.isSome = true) ∧ CSpec Tryz.prog 19 [.c (.ptr p 0), envV c mn who] H K :=
  comp_use hp hm ((cs10_1_ev c who x seen m cap pm _).mpr (cs10_1K_of _ _ _ _ _ cap _ hlen ha))

theorem cs11_1_use {H : LH} {K : LV → LH → Prop} {p mn cap : Nat} {pm : PMem} {c : PCfg} {who : Int} (x : PComp) (seen : PSeenL) (m : PMove) (hp : H.get p = some (.obj (.comp ({ x with pc := 11, seen := some seen, m := some m, a := none, s := none }) cap))) (hm : H.get mn = some (.obj (.mem pm))) (hlen : seen.len ≤ 1048576)
    (ha : appC (fun x' cap' pm' => K (.tup []) ((H.put p (.obj (.comp x' cap'))).put mn (.obj (.mem pm')))) (cs11_1 c who x seen m pm)) : (∃ fn, Tryz.prog.funcs[19]? = some fn ∧ fn.body.isSome = true) ∧ CSpec Tryz.prog 19 [.c (.ptr p 0), envV c mn who] H K :=
  comp_use hp hm ((cs11_1_ev c who x seen m cap pm _).mpr (cs11_1K_of _ _ _ _ _ cap _ hlen ha))

theorem csA_1_use {H : LH} {K : LV → LH → Prop} {p mn cap : Nat} {pm : PMem} {c : PCfg} {who : Int} (x : PComp) (seen : PSeenL) (m : PMove) (a : PAdv) (hp : H.get p = some (.obj (.comp ({ x with pc := 10, seen := some seen, m := some m, a := some a, s := none }) cap))) (hm : H.get mn = some (.obj (.mem pm))) (hlen : seen.len ≤ 1048576)
    (ha : appC (fun x' cap' pm' => K (.tup []) ((H.put p (.obj (.comp x' cap'))).put mn (.obj (.mem pm')))) (csA_1 c who x seen m a pm)) : (∃ fn, Tryz.prog.funcs[19]? = some fn ∧ fn.body.isSome = true) ∧ CSpec Tryz.prog 19 [.c (.ptr p 0), envV c mn who] H K :=
  comp_use hp hm ((csA_1_ev c who x seen m a cap pm _).mpr (csA_1K_of _ _ _ _ _ _ cap _ hlen ha))

theorem csS_1_use {H : LH} {K : LV → LH → Prop} {p mn cap : Nat} {pm : PMem} {c : PCfg} {who : Int} (x : PComp) (seen : PSeenL) (m : PMove) (s : PSettle) (hp : H.get p = some (.obj (.comp ({ x with pc := 11, seen := some seen, m := some m, a := none, s := some s }) cap))) (hm : H.get mn = some (.obj (.mem pm))) (hlen : seen.len ≤ 1048576)
    (ha : appC (fun x' cap' pm' => K (.tup []) ((H.put p (.obj (.comp x' cap'))).put mn (.obj (.mem pm')))) (csS_1 c who x seen m s pm)) : (∃ fn, Tryz.prog.funcs[19]? = some fn ∧ fn.body.isSome = true) ∧ CSpec Tryz.prog 19 [.c (.ptr p 0), envV c mn who] H K :=
  comp_use hp hm ((csS_1_ev c who x seen m s cap pm _).mpr (csS_1K_of _ _ _ _ _ _ cap _ hlen ha))

def h_compStep : Hd := fun args H K => match args with
  | [.c (.ptr p0 0), .agg [.int .i64 c1, .int .i64 c2, .int .i64 c3, .int .i64 c4, .int .i64 c5, .int .i64 c6, .int .i64 c7, .ptr m 0, .int .i64 who]] => match H.get p0, H.get m with
    | some (.obj (.comp x cap)), some (.obj (.mem pm)) => compOk ⟨c1, c2, c3, c4, c5, c6, c7⟩ who x pm = true ∧ ∀ cap' : Nat, K (.tup []) ((H.put p0 (.obj (.comp (compX ⟨c1, c2, c3, c4, c5, c6, c7⟩ who x pm).1 cap'))).put m (.obj (.mem (compX ⟨c1, c2, c3, c4, c5, c6, c7⟩ who x pm).2)))
    | _, _ => False
  | _ => False

theorem compAll_0 {H : LH} {K : LV → LH → Prop} {p mn cap : Nat} {pm : PMem} {c : PCfg} {who : Int} (x : PComp) (seen : PSeenL) (hs : x.seen = some seen) (hmo : x.m = none) (hp : H.get p = some (.obj (.comp x cap))) (hm : H.get mn = some (.obj (.mem pm))) (hlen : seen.len ≤ 1048576)
    (ha : appC (fun x' cap' pm' => K (.tup []) ((H.put p (.obj (.comp x' cap'))).put mn (.obj (.mem pm')))) (compStep c who x pm)) : (∃ fn, Tryz.prog.funcs[19]? = some fn ∧ fn.body.isSome = true) ∧ CSpec Tryz.prog 19 [.c (.ptr p 0), envV c mn who] H K := by
  obtain ⟨pc, seen', at_, pos, w, now, mo', a, t, work, was, idle⟩ := x
  cases hs
  cases hmo
  simp only [compStep, hlen, decide_true, cond_true] at ha
  cases a with
  | none =>
    cases t with
    | none =>
      simp only at ha
      refine c_bif ha (fun hpc ha => ?_) (fun ha => ?_)
      · subst hpc; exact cs0_0_use ⟨0, some seen, at_, pos, w, now, none, none, none, work, was, idle⟩ seen hp hm hlen ha
      refine c_bif ha (fun hpc ha => ?_) (fun ha => ?_)
      · subst hpc; exact cs1_0_use ⟨1, some seen, at_, pos, w, now, none, none, none, work, was, idle⟩ seen hp hm hlen ha
      refine c_bif ha (fun hpc ha => ?_) (fun ha => ?_)
      · subst hpc; exact cs2_0_use ⟨2, some seen, at_, pos, w, now, none, none, none, work, was, idle⟩ seen hp hm hlen ha
      refine c_bif ha (fun hpc ha => ?_) (fun ha => ?_)
      · subst hpc; exact cs3_0_use ⟨3, some seen, at_, pos, w, now, none, none, none, work, was, idle⟩ seen hp hm hlen ha
      refine c_bif ha (fun hpc ha => ?_) (fun ha => ?_)
      · subst hpc; exact cs4_0_use ⟨4, some seen, at_, pos, w, now, none, none, none, work, was, idle⟩ seen hp hm hlen ha
      refine c_bif ha (fun hpc ha => ?_) (fun ha => ?_)
      · subst hpc; exact cs5_0_use ⟨5, some seen, at_, pos, w, now, none, none, none, work, was, idle⟩ seen hp hm hlen ha
      refine c_bif ha (fun hpc ha => ?_) (fun ha => ?_)
      · subst hpc; exact cs6_0_use ⟨6, some seen, at_, pos, w, now, none, none, none, work, was, idle⟩ seen hp hm hlen ha
      refine c_bif ha (fun hpc ha => ?_) (fun ha => ?_)
      · subst hpc; exact cs7_0_use ⟨7, some seen, at_, pos, w, now, none, none, none, work, was, idle⟩ seen hp hm hlen ha
      refine c_bif ha (fun hpc ha => ?_) (fun ha => ?_)
      · subst hpc; exact cs8_0_use ⟨8, some seen, at_, pos, w, now, none, none, none, work, was, idle⟩ seen hp hm hlen ha
      refine c_bif ha (fun hpc ha => ?_) (fun ha => ?_)
      · subst hpc; exact cs9_0_use ⟨9, some seen, at_, pos, w, now, none, none, none, work, was, idle⟩ seen hp hm hlen ha
      refine c_bif ha (fun hpc ha => ?_) (fun ha => ?_)
      · subst hpc; exact cs10_0_use ⟨10, some seen, at_, pos, w, now, none, none, none, work, was, idle⟩ seen hp hm hlen ha
      refine c_bif ha (fun hpc ha => ?_) (fun ha => ?_)
      · subst hpc; exact cs11_0_use ⟨11, some seen, at_, pos, w, now, none, none, none, work, was, idle⟩ seen hp hm hlen ha
      exact ha.elim
    | some t =>
      simp only at ha
      refine c_bif ha (fun hpc ha => ?_) (fun ha => ha.elim)
      subst hpc; exact csS_0_use ⟨11, some seen, at_, pos, w, now, none, none, some t, work, was, idle⟩ seen t hp hm hlen ha
  | some a =>
    cases t with
    | some _ => exact ha.elim
    | none =>
      simp only at ha
      refine c_bif ha (fun hpc ha => ?_) (fun ha => ha.elim)
      subst hpc; exact csA_0_use ⟨10, some seen, at_, pos, w, now, none, some a, none, work, was, idle⟩ seen a hp hm hlen ha

theorem compAll_1 {H : LH} {K : LV → LH → Prop} {p mn cap : Nat} {pm : PMem} {c : PCfg} {who : Int} (x : PComp) (seen : PSeenL) (mo : PMove) (hs : x.seen = some seen) (hmo : x.m = (some mo)) (hp : H.get p = some (.obj (.comp x cap))) (hm : H.get mn = some (.obj (.mem pm))) (hlen : seen.len ≤ 1048576)
    (ha : appC (fun x' cap' pm' => K (.tup []) ((H.put p (.obj (.comp x' cap'))).put mn (.obj (.mem pm')))) (compStep c who x pm)) : (∃ fn, Tryz.prog.funcs[19]? = some fn ∧ fn.body.isSome = true) ∧ CSpec Tryz.prog 19 [.c (.ptr p 0), envV c mn who] H K := by
  obtain ⟨pc, seen', at_, pos, w, now, mo', a, t, work, was, idle⟩ := x
  cases hs
  cases hmo
  simp only [compStep, hlen, decide_true, cond_true] at ha
  cases a with
  | none =>
    cases t with
    | none =>
      simp only at ha
      refine c_bif ha (fun hpc ha => ?_) (fun ha => ?_)
      · subst hpc; exact cs0_1_use ⟨0, some seen, at_, pos, w, now, (some mo), none, none, work, was, idle⟩ seen mo hp hm hlen ha
      refine c_bif ha (fun hpc ha => ?_) (fun ha => ?_)
      · subst hpc; exact cs1_1_use ⟨1, some seen, at_, pos, w, now, (some mo), none, none, work, was, idle⟩ seen mo hp hm hlen ha
      refine c_bif ha (fun hpc ha => ?_) (fun ha => ?_)
      · subst hpc; exact cs2_1_use ⟨2, some seen, at_, pos, w, now, (some mo), none, none, work, was, idle⟩ seen mo hp hm hlen ha
      refine c_bif ha (fun hpc ha => ?_) (fun ha => ?_)
      · subst hpc; exact cs3_1_use ⟨3, some seen, at_, pos, w, now, (some mo), none, none, work, was, idle⟩ seen mo hp hm hlen ha
      refine c_bif ha (fun hpc ha => ?_) (fun ha => ?_)
      · subst hpc; exact cs4_1_use ⟨4, some seen, at_, pos, w, now, (some mo), none, none, work, was, idle⟩ seen mo hp hm hlen ha
      refine c_bif ha (fun hpc ha => ?_) (fun ha => ?_)
      · subst hpc; exact cs5_1_use ⟨5, some seen, at_, pos, w, now, (some mo), none, none, work, was, idle⟩ seen mo hp hm hlen ha
      refine c_bif ha (fun hpc ha => ?_) (fun ha => ?_)
      · subst hpc; exact cs6_1_use ⟨6, some seen, at_, pos, w, now, (some mo), none, none, work, was, idle⟩ seen mo hp hm hlen ha
      refine c_bif ha (fun hpc ha => ?_) (fun ha => ?_)
      · subst hpc; exact cs7_1_use ⟨7, some seen, at_, pos, w, now, (some mo), none, none, work, was, idle⟩ seen mo hp hm hlen ha
      refine c_bif ha (fun hpc ha => ?_) (fun ha => ?_)
      · subst hpc; exact cs8_1_use ⟨8, some seen, at_, pos, w, now, (some mo), none, none, work, was, idle⟩ seen mo hp hm hlen ha
      refine c_bif ha (fun hpc ha => ?_) (fun ha => ?_)
      · subst hpc; exact cs9_1_use ⟨9, some seen, at_, pos, w, now, (some mo), none, none, work, was, idle⟩ seen mo hp hm hlen ha
      refine c_bif ha (fun hpc ha => ?_) (fun ha => ?_)
      · subst hpc; exact cs10_1_use ⟨10, some seen, at_, pos, w, now, (some mo), none, none, work, was, idle⟩ seen mo hp hm hlen ha
      refine c_bif ha (fun hpc ha => ?_) (fun ha => ?_)
      · subst hpc; exact cs11_1_use ⟨11, some seen, at_, pos, w, now, (some mo), none, none, work, was, idle⟩ seen mo hp hm hlen ha
      exact ha.elim
    | some t =>
      simp only at ha
      refine c_bif ha (fun hpc ha => ?_) (fun ha => ha.elim)
      subst hpc; exact csS_1_use ⟨11, some seen, at_, pos, w, now, (some mo), none, some t, work, was, idle⟩ seen mo t hp hm hlen ha
  | some a =>
    cases t with
    | some _ => exact ha.elim
    | none =>
      simp only at ha
      refine c_bif ha (fun hpc ha => ?_) (fun ha => ha.elim)
      subst hpc; exact csA_1_use ⟨10, some seen, at_, pos, w, now, (some mo), some a, none, work, was, idle⟩ seen mo a hp hm hlen ha

theorem compStep_all {H : LH} {K : LV → LH → Prop} {p mn cap : Nat} {pm : PMem} {c : PCfg} {who : Int} (x : PComp) (hp : H.get p = some (.obj (.comp x cap))) (hm : H.get mn = some (.obj (.mem pm)))
    (ha : appC (fun x' cap' pm' => K (.tup []) ((H.put p (.obj (.comp x' cap'))).put mn (.obj (.mem pm')))) (compStep c who x pm)) : (∃ fn, Tryz.prog.funcs[19]? = some fn ∧ fn.body.isSome = true) ∧ CSpec Tryz.prog 19 [.c (.ptr p 0), envV c mn who] H K := by
  cases hs : x.seen with
  | none =>
    obtain ⟨pc, seen, at_, pos, w, now, mo, a, t, work, was, idle⟩ := x
    cases hs
    simp only [compStep] at ha
    cases mo with
    | some _ => exact ha.elim
    | none =>
      cases a with
      | some _ => exact ha.elim
      | none =>
        cases t with
        | some _ => exact ha.elim
        | none =>
          simp only at ha
          refine c_bif ha (fun hpc ha => ?_) (fun ha => ha.elim)
          subst hpc
          exact csStart_use ⟨0, none, at_, pos, w, now, none, none, none, work, was, idle⟩ hp hm ha
  | some seen =>
    by_cases hlen : seen.len ≤ 1048576
    · cases hmo : x.m with
      | none => exact compAll_0 x seen hs hmo hp hm hlen ha
      | some mo => exact compAll_1 x seen mo hs hmo hp hm hlen ha
    · simp only [compStep, hs, hlen, decide_false, cond_false] at ha
      exact ha.elim

theorem h_compStep_ok : HOK 19 h_compStep := by
  intro args H K h
  unfold h_compStep at h
  split at h
  case h_2 => exact h.elim
  rename_i p0 c1 c2 c3 c4 c5 c6 c7 m who
  split at h
  case h_2 => exact h.elim
  rename_i x cap pm hp hm
  obtain ⟨hok, h⟩ := h
  refine compStep_all (c := ⟨c1, c2, c3, c4, c5, c6, c7⟩) x hp hm ?_
  unfold compOk at hok
  unfold compX at h
  cases hs : compStep ⟨c1, c2, c3, c4, c5, c6, c7⟩ who x pm with
  | none => rw [hs] at hok; cases hok
  | some r =>
    rw [hs] at h
    exact h

def tabK5 : List (FuncId × Hd) := (19, h_compStep) :: tabK4
def ownK5 : FuncId → Option Hd := look tabK5
theorem allK5 : AllOK tabK5 := ⟨h_compStep_ok, allK4⟩
theorem ownK5_ok : OwnOK Tryz.prog ownK5 := look_ok allK5

end Go.Proofs.YtfjnkneoddankaaGreat
