/- Functions that are done in another way: ask (a deferred recover that finds nothing), slices.Insert of one element of two cells. -/
import Derived.Test.YtbfmjoheolgjeaaGreatDoorAvR
namespace Go.Av
abbrev Cl := Nat → List AV → St → OR

noncomputable def askFn : AFn := ⟨1, 6, [0, 2], [.cell 2 none], .skip⟩
noncomputable def ask0 : List AOp := [⟨.var 2, none, .alloc [.int .i64 0], [], [], false⟩]
noncomputable def ask2 : List AOp := [⟨.push, none, .mov (.var 0), [], [], false⟩, ⟨.drop, none, .callv (.loc 0) [], [], [], false⟩]
noncomputable def ask3 : List AOp := [⟨.drop, none, .store 1 (.var 2) (.cst (.int .i64 0)), [], [], false⟩]

noncomputable def askX (cl : Cl) (l : List AV) (S : St) : OR :=
  match Nat.beq l.length 1 with
  | true => retA askFn (thenX (fun F S => thenX (fun F S => ropsX cl ask3 [] F S) (ropsX cl ask2 [] F S)) (ropsX cl ask0 [] (ofList l) S))
  | false => .no

noncomputable def insX (l : List AV) (S : St) : Option OR :=
  match l with
  | [.slc b off n none, .int .i64 (.ofNat i), .slc vb voff 1 vc] => match Nat.ble (Nat.succ i) n with
    | true => match S.heap.get b with
      | some (.cells e size c) => match Nat.beq e 2, Nat.ble size (Nat.add off (Nat.mul n 2)), Nat.ble (Nat.add off (Nat.mul n 2)) size, Nat.beq vb b with
        | true, true, true, false => match loadN c (Nat.mul n 2) off, sliceCells S 2 1 (.slc vb voff 1 vc), Nat.ble n 999999 with
          | some cs, some v, true => match allOne cs, allOne v with
            | true, true => some (newB ⟨S.next, PT.set none S.heap b⟩ (.cells 2 (Nat.mul (Nat.succ n) 2) (ofList (cs.take (Nat.mul i 2) ++ (v ++ cs.drop (Nat.mul i 2))))) fun b' => .slc b' 0 (Nat.succ n) none)
            | _, _ => some .no
          | _, _, _ => some .no
        | _, _, _, _ => some .no
      | _ => some .no
    | false => none
  | _ => none

noncomputable def xcOf (fa fi : Nat) (cl : Cl) (f : Nat) (args : List AV) (S : St) : Option OR :=
  match Nat.beq f fa with
  | true => some (askX cl args S)
  | false => match Nat.beq f fi with
    | true => insX args S
    | false => none
end Go.Av
