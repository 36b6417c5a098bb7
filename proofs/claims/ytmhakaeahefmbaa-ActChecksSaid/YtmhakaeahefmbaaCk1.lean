/-
  Which acts may be: the walk.
-/
import Derived.Test.YtmhakaeahefmbaaAw1
set_option linter.unusedVariables false
set_option linter.unusedSimpArgs false
set_option maxRecDepth 100000
namespace Go.FL

def checksK (x1 x2 x3 x4 x5 x6 : Int) (x7 : Bool) (K : Bool → Prop) : Prop :=
  bif decide (1 ≤ x1) then
   bif decide (x1 ≤ 5) then
    bif decide (0 ≤ x5) then
     bif decide (x5 ≤ 1099511627775) then
      bif decide (0 ≤ x6) then
       bif actOk x1 x5 x6 then
        bif decide (0 ≤ x5) then
         bif decide (x5 ≤ 1099511627775) then
          bif decide (0 ≤ x6) then
           bif decide (1 ≤ x1) then
            bif decide (x1 ≤ 5) then
             bif decide (x6 ≤ 1099511627775) == decide (x6 ≤ 1099511627775) then
              bif decide (0 = 0) == decide (x6 ≤ 1099511627775) then
               bif (!false) == decide (x6 ≤ 1099511627775) then
                K true
               else
                K false
              else
               K false
             else
              K false
            else
             bif false == decide (x6 ≤ 1099511627775) then
              bif decide (0 = 0) == decide (x6 ≤ 1099511627775) then
               bif (!false) == decide (x6 ≤ 1099511627775) then
                K true
               else
                K false
              else
               K false
             else
              K false
           else
            bif false == decide (x6 ≤ 1099511627775) then
             bif decide (0 = 0) == decide (x6 ≤ 1099511627775) then
              bif (!false) == decide (x6 ≤ 1099511627775) then
               K true
              else
               K false
             else
              K false
            else
             K false
          else
           bif decide (1 ≤ x1) then
            bif decide (x1 ≤ 5) then
             bif false == decide (x6 ≤ 1099511627775) then
              bif decide (0 = 0) == decide (x6 ≤ 1099511627775) then
               bif (!false) == decide (x6 ≤ 1099511627775) then
                K true
               else
                K false
              else
               K false
             else
              K false
            else
             bif false == decide (x6 ≤ 1099511627775) then
              bif decide (0 = 0) == decide (x6 ≤ 1099511627775) then
               bif (!false) == decide (x6 ≤ 1099511627775) then
                K true
               else
                K false
              else
               K false
             else
              K false
           else
            bif false == decide (x6 ≤ 1099511627775) then
             bif decide (0 = 0) == decide (x6 ≤ 1099511627775) then
              bif (!false) == decide (x6 ≤ 1099511627775) then
               K true
              else
               K false
             else
              K false
            else
             K false
         else
          bif decide (1 ≤ x1) then
           bif decide (x1 ≤ 5) then
            bif false == decide (x6 ≤ 1099511627775) then
             bif decide (0 = 0) == decide (x6 ≤ 1099511627775) then
              bif (!false) == decide (x6 ≤ 1099511627775) then
               K true
              else
               K false
             else
              K false
            else
             K false
           else
            bif false == decide (x6 ≤ 1099511627775) then
             bif decide (0 = 0) == decide (x6 ≤ 1099511627775) then
              bif (!false) == decide (x6 ≤ 1099511627775) then
               K true
              else
               K false
             else
              K false
            else
             K false
          else
           bif false == decide (x6 ≤ 1099511627775) then
            bif decide (0 = 0) == decide (x6 ≤ 1099511627775) then
             bif (!false) == decide (x6 ≤ 1099511627775) then
              K true
             else
              K false
            else
             K false
           else
            K false
        else
         bif decide (1 ≤ x1) then
          bif decide (x1 ≤ 5) then
           bif false == decide (x6 ≤ 1099511627775) then
            bif decide (0 = 0) == decide (x6 ≤ 1099511627775) then
             bif (!false) == decide (x6 ≤ 1099511627775) then
              K true
             else
              K false
            else
             K false
           else
            K false
          else
           bif false == decide (x6 ≤ 1099511627775) then
            bif decide (0 = 0) == decide (x6 ≤ 1099511627775) then
             bif (!false) == decide (x6 ≤ 1099511627775) then
              K true
             else
              K false
            else
             K false
           else
            K false
         else
          bif false == decide (x6 ≤ 1099511627775) then
           bif decide (0 = 0) == decide (x6 ≤ 1099511627775) then
            bif (!false) == decide (x6 ≤ 1099511627775) then
             K true
            else
             K false
           else
            K false
          else
           K false
       else
        bif decide (0 ≤ x5) then
         bif decide (x5 ≤ 1099511627775) then
          bif decide (0 ≤ x6) then
           bif decide (1 ≤ x1) then
            bif decide (x1 ≤ 5) then
             bif decide (x6 ≤ 1099511627775) == decide (x6 ≤ 1099511627775) then
              bif decide (1 = 0) == decide (x6 ≤ 1099511627775) then
               bif (!true) == decide (x6 ≤ 1099511627775) then
                K true
               else
                K false
              else
               K false
             else
              K false
            else
             bif false == decide (x6 ≤ 1099511627775) then
              bif decide (1 = 0) == decide (x6 ≤ 1099511627775) then
               bif (!true) == decide (x6 ≤ 1099511627775) then
                K true
               else
                K false
              else
               K false
             else
              K false
           else
            bif false == decide (x6 ≤ 1099511627775) then
             bif decide (1 = 0) == decide (x6 ≤ 1099511627775) then
              bif (!true) == decide (x6 ≤ 1099511627775) then
               K true
              else
               K false
             else
              K false
            else
             K false
          else
           bif decide (1 ≤ x1) then
            bif decide (x1 ≤ 5) then
             bif false == decide (x6 ≤ 1099511627775) then
              bif decide (1 = 0) == decide (x6 ≤ 1099511627775) then
               bif (!true) == decide (x6 ≤ 1099511627775) then
                K true
               else
                K false
              else
               K false
             else
              K false
            else
             bif false == decide (x6 ≤ 1099511627775) then
              bif decide (1 = 0) == decide (x6 ≤ 1099511627775) then
               bif (!true) == decide (x6 ≤ 1099511627775) then
                K true
               else
                K false
              else
               K false
             else
              K false
           else
            bif false == decide (x6 ≤ 1099511627775) then
             bif decide (1 = 0) == decide (x6 ≤ 1099511627775) then
              bif (!true) == decide (x6 ≤ 1099511627775) then
               K true
              else
               K false
             else
              K false
            else
             K false
         else
          bif decide (1 ≤ x1) then
           bif decide (x1 ≤ 5) then
            bif false == decide (x6 ≤ 1099511627775) then
             bif decide (1 = 0) == decide (x6 ≤ 1099511627775) then
              bif (!true) == decide (x6 ≤ 1099511627775) then
               K true
              else
               K false
             else
              K false
            else
             K false
           else
            bif false == decide (x6 ≤ 1099511627775) then
             bif decide (1 = 0) == decide (x6 ≤ 1099511627775) then
              bif (!true) == decide (x6 ≤ 1099511627775) then
               K true
              else
               K false
             else
              K false
            else
             K false
          else
           bif false == decide (x6 ≤ 1099511627775) then
            bif decide (1 = 0) == decide (x6 ≤ 1099511627775) then
             bif (!true) == decide (x6 ≤ 1099511627775) then
              K true
             else
              K false
            else
             K false
           else
            K false
        else
         bif decide (1 ≤ x1) then
          bif decide (x1 ≤ 5) then
           bif false == decide (x6 ≤ 1099511627775) then
            bif decide (1 = 0) == decide (x6 ≤ 1099511627775) then
             bif (!true) == decide (x6 ≤ 1099511627775) then
              K true
             else
              K false
            else
             K false
           else
            K false
          else
           bif false == decide (x6 ≤ 1099511627775) then
            bif decide (1 = 0) == decide (x6 ≤ 1099511627775) then
             bif (!true) == decide (x6 ≤ 1099511627775) then
              K true
             else
              K false
            else
             K false
           else
            K false
         else
          bif false == decide (x6 ≤ 1099511627775) then
           bif decide (1 = 0) == decide (x6 ≤ 1099511627775) then
            bif (!true) == decide (x6 ≤ 1099511627775) then
             K true
            else
             K false
           else
            K false
          else
           K false
      else
       bif actOk x1 x5 x6 then
        bif decide (0 ≤ x5) then
         bif decide (x5 ≤ 1099511627775) then
          bif decide (0 ≤ x6) then
           bif decide (1 ≤ x1) then
            bif decide (x1 ≤ 5) then
             bif decide (x6 ≤ 1099511627775) == false then
              K false
             else
              K false
            else
             K false
           else
            K false
          else
           bif decide (1 ≤ x1) then
            bif decide (x1 ≤ 5) then
             K false
            else
             K false
           else
            K false
         else
          bif decide (1 ≤ x1) then
           bif decide (x1 ≤ 5) then
            K false
           else
            K false
          else
           K false
        else
         bif decide (1 ≤ x1) then
          bif decide (x1 ≤ 5) then
           K false
          else
           K false
         else
          K false
       else
        bif decide (0 ≤ x5) then
         bif decide (x5 ≤ 1099511627775) then
          bif decide (0 ≤ x6) then
           bif decide (1 ≤ x1) then
            bif decide (x1 ≤ 5) then
             bif decide (x6 ≤ 1099511627775) == false then
              K true
             else
              K false
            else
             K true
           else
            K true
          else
           bif decide (1 ≤ x1) then
            bif decide (x1 ≤ 5) then
             K true
            else
             K true
           else
            K true
         else
          bif decide (1 ≤ x1) then
           bif decide (x1 ≤ 5) then
            K true
           else
            K true
          else
           K true
        else
         bif decide (1 ≤ x1) then
          bif decide (x1 ≤ 5) then
           K true
          else
           K true
         else
          K true
     else
      bif actOk x1 x5 x6 then
       bif decide (0 ≤ x5) then
        bif decide (x5 ≤ 1099511627775) then
         bif decide (0 ≤ x6) then
          bif decide (1 ≤ x1) then
           bif decide (x1 ≤ 5) then
            bif decide (x6 ≤ 1099511627775) == false then
             K false
            else
             K false
           else
            K false
          else
           K false
         else
          bif decide (1 ≤ x1) then
           bif decide (x1 ≤ 5) then
            K false
           else
            K false
          else
           K false
        else
         bif decide (1 ≤ x1) then
          bif decide (x1 ≤ 5) then
           K false
          else
           K false
         else
          K false
       else
        bif decide (1 ≤ x1) then
         bif decide (x1 ≤ 5) then
          K false
         else
          K false
        else
         K false
      else
       bif decide (0 ≤ x5) then
        bif decide (x5 ≤ 1099511627775) then
         bif decide (0 ≤ x6) then
          bif decide (1 ≤ x1) then
           bif decide (x1 ≤ 5) then
            bif decide (x6 ≤ 1099511627775) == false then
             K true
            else
             K false
           else
            K true
          else
           K true
         else
          bif decide (1 ≤ x1) then
           bif decide (x1 ≤ 5) then
            K true
           else
            K true
          else
           K true
        else
         bif decide (1 ≤ x1) then
          bif decide (x1 ≤ 5) then
           K true
          else
           K true
         else
          K true
       else
        bif decide (1 ≤ x1) then
         bif decide (x1 ≤ 5) then
          K true
         else
          K true
        else
         K true
    else
     bif actOk x1 x5 x6 then
      bif decide (0 ≤ x5) then
       bif decide (x5 ≤ 1099511627775) then
        bif decide (0 ≤ x6) then
         bif decide (1 ≤ x1) then
          bif decide (x1 ≤ 5) then
           bif decide (x6 ≤ 1099511627775) == false then
            K false
           else
            K false
          else
           K false
         else
          K false
        else
         bif decide (1 ≤ x1) then
          bif decide (x1 ≤ 5) then
           K false
          else
           K false
         else
          K false
       else
        bif decide (1 ≤ x1) then
         bif decide (x1 ≤ 5) then
          K false
         else
          K false
        else
         K false
      else
       bif decide (1 ≤ x1) then
        bif decide (x1 ≤ 5) then
         K false
        else
         K false
       else
        K false
     else
      bif decide (0 ≤ x5) then
       bif decide (x5 ≤ 1099511627775) then
        bif decide (0 ≤ x6) then
         bif decide (1 ≤ x1) then
          bif decide (x1 ≤ 5) then
           bif decide (x6 ≤ 1099511627775) == false then
            K true
           else
            K false
          else
           K true
         else
          K true
        else
         bif decide (1 ≤ x1) then
          bif decide (x1 ≤ 5) then
           K true
          else
           K true
         else
          K true
       else
        bif decide (1 ≤ x1) then
         bif decide (x1 ≤ 5) then
          K true
         else
          K true
        else
         K true
      else
       bif decide (1 ≤ x1) then
        bif decide (x1 ≤ 5) then
         K true
        else
         K true
       else
        K true
   else
    bif actOk x1 x5 x6 then
     bif decide (0 ≤ x5) then
      bif decide (x5 ≤ 1099511627775) then
       bif decide (0 ≤ x6) then
        bif decide (1 ≤ x1) then
         bif decide (x1 ≤ 5) then
          bif decide (x6 ≤ 1099511627775) == false then
           K false
          else
           K false
         else
          K false
        else
         K false
       else
        bif decide (1 ≤ x1) then
         bif decide (x1 ≤ 5) then
          K false
         else
          K false
        else
         K false
      else
       bif decide (1 ≤ x1) then
        bif decide (x1 ≤ 5) then
         K false
        else
         K false
       else
        K false
     else
      bif decide (1 ≤ x1) then
       bif decide (x1 ≤ 5) then
        K false
       else
        K false
      else
       K false
    else
     bif decide (0 ≤ x5) then
      bif decide (x5 ≤ 1099511627775) then
       bif decide (0 ≤ x6) then
        bif decide (1 ≤ x1) then
         bif decide (x1 ≤ 5) then
          bif decide (x6 ≤ 1099511627775) == false then
           K true
          else
           K false
         else
          K true
        else
         K true
       else
        bif decide (1 ≤ x1) then
         bif decide (x1 ≤ 5) then
          K true
         else
          K true
        else
         K true
      else
       bif decide (1 ≤ x1) then
        bif decide (x1 ≤ 5) then
         K true
        else
         K true
       else
        K true
     else
      bif decide (1 ≤ x1) then
       bif decide (x1 ≤ 5) then
        K true
       else
        K true
      else
       K true
  else
   bif actOk x1 x5 x6 then
    bif decide (0 ≤ x5) then
     bif decide (x5 ≤ 1099511627775) then
      bif decide (0 ≤ x6) then
       bif decide (1 ≤ x1) then
        bif decide (x1 ≤ 5) then
         bif decide (x6 ≤ 1099511627775) == false then
          K false
         else
          K false
        else
         K false
       else
        K false
      else
       bif decide (1 ≤ x1) then
        bif decide (x1 ≤ 5) then
         K false
        else
         K false
       else
        K false
     else
      bif decide (1 ≤ x1) then
       bif decide (x1 ≤ 5) then
        K false
       else
        K false
      else
       K false
    else
     bif decide (1 ≤ x1) then
      bif decide (x1 ≤ 5) then
       K false
      else
       K false
     else
      K false
   else
    bif decide (0 ≤ x5) then
     bif decide (x5 ≤ 1099511627775) then
      bif decide (0 ≤ x6) then
       bif decide (1 ≤ x1) then
        bif decide (x1 ≤ 5) then
         bif decide (x6 ≤ 1099511627775) == false then
          K true
         else
          K false
        else
         K true
       else
        K true
      else
       bif decide (1 ≤ x1) then
        bif decide (x1 ≤ 5) then
         K true
        else
         K true
       else
        K true
     else
      bif decide (1 ≤ x1) then
       bif decide (x1 ≤ 5) then
        K true
       else
        K true
      else
       K true
    else
     bif decide (1 ≤ x1) then
      bif decide (x1 ≤ 5) then
       K true
      else
       K true
     else
      K true

theorem checksK_true (x1 x2 x3 x4 x5 x6 : Int) (x7 : Bool) (K : Bool → Prop) : checksK x1 x2 x3 x4 x5 x6 x7 K = K true := by
  unfold checksK actOk
  generalize decide (0 ≤ x5) = b1
  generalize decide (x5 ≤ 1099511627775) = b2
  generalize decide (0 ≤ x6) = b3
  generalize decide (1 ≤ x1) = b4
  generalize decide (x1 ≤ 5) = b5
  generalize decide (x6 ≤ 1099511627775) = b6
  cases b1 <;> cases b2 <;> cases b3 <;> cases b4 <;> cases b5 <;> cases b6 <;> rfl

end Go.FL

namespace Go.Proofs.Ytmhakaeahefmbaa
open Go Go.FL Go.Proofs

theorem checks_ev (x1 x2 x3 x4 x5 x6 : Int) (x7 : Bool) (K : Bool → Prop) : evF Try.prog ownC 10 20 5 [.agg [.int .i64 x1, .int .i64 x2, .int .u64 x3, .int .i64 x4, .int .i64 x5, .int .i64 x6, .bool x7]] ⟨[], []⟩ (fun v H₁ => match v with
    | .c (.bool b) => K b
    | _ => False) = checksK x1 x2 x3 x4 x5 x6 x7 K := by kernel_rfl

end Go.Proofs.Ytmhakaeahefmbaa
