import Derived.Test.YtialpccieggaoaaGreatDoorAmL
/- THE ABSTRACT MACHINE, part M: a machine over values without block numbers, run by the kernel, and the proof that the model's machine does what it does. No condition. -/
set_option linter.unusedSimpArgs false
set_option linter.unusedVariables false
namespace Go.Proofs.YtialpccieggaoaaGreatDoor.Am

noncomputable def get1V (x : D8) : N8 (Option AV) → Option AV :=
  D8.rec (motive := fun _ => N8 (Option AV) → Option AV)
    (fun n => n.c0)
    (fun n => n.c1)
    (fun n => n.c2)
    (fun n => n.c3)
    (fun n => n.c4)
    (fun n => n.c5)
    (fun n => n.c6)
    (fun n => n.c7) x

noncomputable def get2V (x : D8) : N8 (N8 (Option AV)) → N8 (Option AV) :=
  D8.rec (motive := fun _ => N8 (N8 (Option AV)) → N8 (Option AV))
    (fun n => n.c0)
    (fun n => n.c1)
    (fun n => n.c2)
    (fun n => n.c3)
    (fun n => n.c4)
    (fun n => n.c5)
    (fun n => n.c6)
    (fun n => n.c7) x

noncomputable def get3V (x : D8) : N8 (N8 (N8 (Option AV))) → N8 (N8 (Option AV)) :=
  D8.rec (motive := fun _ => N8 (N8 (N8 (Option AV))) → N8 (N8 (Option AV)))
    (fun n => n.c0)
    (fun n => n.c1)
    (fun n => n.c2)
    (fun n => n.c3)
    (fun n => n.c4)
    (fun n => n.c5)
    (fun n => n.c6)
    (fun n => n.c7) x

noncomputable def get4V (x : D8) : N8 (N8 (N8 (N8 (Option AV)))) → N8 (N8 (N8 (Option AV))) :=
  D8.rec (motive := fun _ => N8 (N8 (N8 (N8 (Option AV)))) → N8 (N8 (N8 (Option AV))))
    (fun n => n.c0)
    (fun n => n.c1)
    (fun n => n.c2)
    (fun n => n.c3)
    (fun n => n.c4)
    (fun n => n.c5)
    (fun n => n.c6)
    (fun n => n.c7) x

noncomputable def get5V (x : D8) : N8 (N8 (N8 (N8 (N8 (Option AV))))) → N8 (N8 (N8 (N8 (Option AV)))) :=
  D8.rec (motive := fun _ => N8 (N8 (N8 (N8 (N8 (Option AV))))) → N8 (N8 (N8 (N8 (Option AV)))))
    (fun n => n.c0)
    (fun n => n.c1)
    (fun n => n.c2)
    (fun n => n.c3)
    (fun n => n.c4)
    (fun n => n.c5)
    (fun n => n.c6)
    (fun n => n.c7) x

noncomputable def get6V (x : D8) : N8 (N8 (N8 (N8 (N8 (N8 (Option AV)))))) → N8 (N8 (N8 (N8 (N8 (Option AV))))) :=
  D8.rec (motive := fun _ => N8 (N8 (N8 (N8 (N8 (N8 (Option AV)))))) → N8 (N8 (N8 (N8 (N8 (Option AV))))))
    (fun n => n.c0)
    (fun n => n.c1)
    (fun n => n.c2)
    (fun n => n.c3)
    (fun n => n.c4)
    (fun n => n.c5)
    (fun n => n.c6)
    (fun n => n.c7) x

noncomputable def getV (x : Pos) : T AV → Option AV :=
  Pos.rec (motive := fun _ => T AV → Option AV)
    (fun x y t => get1V y (get2V x t.a))
    (fun x y z w t => get1V w (get2V z (get3V y (get4V x t.b))))
    (fun x y z w u r t => get1V r (get2V u (get3V w (get4V z (get5V y (get6V x t.c))))))
    (fun q t => BT.get q t.s) x

noncomputable def set1V (x : D8) : N8 (Option AV) → Option AV → (N8 (Option AV) → Out) → Out :=
  D8.rec (motive := fun _ => N8 (Option AV) → Option AV → (N8 (Option AV) → Out) → Out)
    (fun n v k => N8.rec (motive := fun _ => Option AV → (N8 (Option AV) → Out) → Out) (fun _ c1 c2 c3 c4 c5 c6 c7 v k => k ⟨v, c1, c2, c3, c4, c5, c6, c7⟩) n  v k)
    (fun n v k => N8.rec (motive := fun _ => Option AV → (N8 (Option AV) → Out) → Out) (fun c0 _ c2 c3 c4 c5 c6 c7 v k => k ⟨c0, v, c2, c3, c4, c5, c6, c7⟩) n  v k)
    (fun n v k => N8.rec (motive := fun _ => Option AV → (N8 (Option AV) → Out) → Out) (fun c0 c1 _ c3 c4 c5 c6 c7 v k => k ⟨c0, c1, v, c3, c4, c5, c6, c7⟩) n  v k)
    (fun n v k => N8.rec (motive := fun _ => Option AV → (N8 (Option AV) → Out) → Out) (fun c0 c1 c2 _ c4 c5 c6 c7 v k => k ⟨c0, c1, c2, v, c4, c5, c6, c7⟩) n  v k)
    (fun n v k => N8.rec (motive := fun _ => Option AV → (N8 (Option AV) → Out) → Out) (fun c0 c1 c2 c3 _ c5 c6 c7 v k => k ⟨c0, c1, c2, c3, v, c5, c6, c7⟩) n  v k)
    (fun n v k => N8.rec (motive := fun _ => Option AV → (N8 (Option AV) → Out) → Out) (fun c0 c1 c2 c3 c4 _ c6 c7 v k => k ⟨c0, c1, c2, c3, c4, v, c6, c7⟩) n  v k)
    (fun n v k => N8.rec (motive := fun _ => Option AV → (N8 (Option AV) → Out) → Out) (fun c0 c1 c2 c3 c4 c5 _ c7 v k => k ⟨c0, c1, c2, c3, c4, c5, v, c7⟩) n  v k)
    (fun n v k => N8.rec (motive := fun _ => Option AV → (N8 (Option AV) → Out) → Out) (fun c0 c1 c2 c3 c4 c5 c6 _ v k => k ⟨c0, c1, c2, c3, c4, c5, c6, v⟩) n  v k) x

noncomputable def set2V (x : D8) : N8 (N8 (Option AV)) → D8 → Option AV → (N8 (N8 (Option AV)) → Out) → Out :=
  D8.rec (motive := fun _ => N8 (N8 (Option AV)) → D8 → Option AV → (N8 (N8 (Option AV)) → Out) → Out)
    (fun n e0 v k => N8.rec (motive := fun _ => D8 → Option AV → (N8 (N8 (Option AV)) → Out) → Out) (fun c0 c1 c2 c3 c4 c5 c6 c7 e0 v k => set1V e0 c0  v fun y => k ⟨y, c1, c2, c3, c4, c5, c6, c7⟩) n e0 v k)
    (fun n e0 v k => N8.rec (motive := fun _ => D8 → Option AV → (N8 (N8 (Option AV)) → Out) → Out) (fun c0 c1 c2 c3 c4 c5 c6 c7 e0 v k => set1V e0 c1  v fun y => k ⟨c0, y, c2, c3, c4, c5, c6, c7⟩) n e0 v k)
    (fun n e0 v k => N8.rec (motive := fun _ => D8 → Option AV → (N8 (N8 (Option AV)) → Out) → Out) (fun c0 c1 c2 c3 c4 c5 c6 c7 e0 v k => set1V e0 c2  v fun y => k ⟨c0, c1, y, c3, c4, c5, c6, c7⟩) n e0 v k)
    (fun n e0 v k => N8.rec (motive := fun _ => D8 → Option AV → (N8 (N8 (Option AV)) → Out) → Out) (fun c0 c1 c2 c3 c4 c5 c6 c7 e0 v k => set1V e0 c3  v fun y => k ⟨c0, c1, c2, y, c4, c5, c6, c7⟩) n e0 v k)
    (fun n e0 v k => N8.rec (motive := fun _ => D8 → Option AV → (N8 (N8 (Option AV)) → Out) → Out) (fun c0 c1 c2 c3 c4 c5 c6 c7 e0 v k => set1V e0 c4  v fun y => k ⟨c0, c1, c2, c3, y, c5, c6, c7⟩) n e0 v k)
    (fun n e0 v k => N8.rec (motive := fun _ => D8 → Option AV → (N8 (N8 (Option AV)) → Out) → Out) (fun c0 c1 c2 c3 c4 c5 c6 c7 e0 v k => set1V e0 c5  v fun y => k ⟨c0, c1, c2, c3, c4, y, c6, c7⟩) n e0 v k)
    (fun n e0 v k => N8.rec (motive := fun _ => D8 → Option AV → (N8 (N8 (Option AV)) → Out) → Out) (fun c0 c1 c2 c3 c4 c5 c6 c7 e0 v k => set1V e0 c6  v fun y => k ⟨c0, c1, c2, c3, c4, c5, y, c7⟩) n e0 v k)
    (fun n e0 v k => N8.rec (motive := fun _ => D8 → Option AV → (N8 (N8 (Option AV)) → Out) → Out) (fun c0 c1 c2 c3 c4 c5 c6 c7 e0 v k => set1V e0 c7  v fun y => k ⟨c0, c1, c2, c3, c4, c5, c6, y⟩) n e0 v k) x

noncomputable def set3V (x : D8) : N8 (N8 (N8 (Option AV))) → D8 → D8 → Option AV → (N8 (N8 (N8 (Option AV))) → Out) → Out :=
  D8.rec (motive := fun _ => N8 (N8 (N8 (Option AV))) → D8 → D8 → Option AV → (N8 (N8 (N8 (Option AV))) → Out) → Out)
    (fun n e0 e1 v k => N8.rec (motive := fun _ => D8 → D8 → Option AV → (N8 (N8 (N8 (Option AV))) → Out) → Out) (fun c0 c1 c2 c3 c4 c5 c6 c7 e0 e1 v k => set2V e0 c0 e1 v fun y => k ⟨y, c1, c2, c3, c4, c5, c6, c7⟩) n e0 e1 v k)
    (fun n e0 e1 v k => N8.rec (motive := fun _ => D8 → D8 → Option AV → (N8 (N8 (N8 (Option AV))) → Out) → Out) (fun c0 c1 c2 c3 c4 c5 c6 c7 e0 e1 v k => set2V e0 c1 e1 v fun y => k ⟨c0, y, c2, c3, c4, c5, c6, c7⟩) n e0 e1 v k)
    (fun n e0 e1 v k => N8.rec (motive := fun _ => D8 → D8 → Option AV → (N8 (N8 (N8 (Option AV))) → Out) → Out) (fun c0 c1 c2 c3 c4 c5 c6 c7 e0 e1 v k => set2V e0 c2 e1 v fun y => k ⟨c0, c1, y, c3, c4, c5, c6, c7⟩) n e0 e1 v k)
    (fun n e0 e1 v k => N8.rec (motive := fun _ => D8 → D8 → Option AV → (N8 (N8 (N8 (Option AV))) → Out) → Out) (fun c0 c1 c2 c3 c4 c5 c6 c7 e0 e1 v k => set2V e0 c3 e1 v fun y => k ⟨c0, c1, c2, y, c4, c5, c6, c7⟩) n e0 e1 v k)
    (fun n e0 e1 v k => N8.rec (motive := fun _ => D8 → D8 → Option AV → (N8 (N8 (N8 (Option AV))) → Out) → Out) (fun c0 c1 c2 c3 c4 c5 c6 c7 e0 e1 v k => set2V e0 c4 e1 v fun y => k ⟨c0, c1, c2, c3, y, c5, c6, c7⟩) n e0 e1 v k)
    (fun n e0 e1 v k => N8.rec (motive := fun _ => D8 → D8 → Option AV → (N8 (N8 (N8 (Option AV))) → Out) → Out) (fun c0 c1 c2 c3 c4 c5 c6 c7 e0 e1 v k => set2V e0 c5 e1 v fun y => k ⟨c0, c1, c2, c3, c4, y, c6, c7⟩) n e0 e1 v k)
    (fun n e0 e1 v k => N8.rec (motive := fun _ => D8 → D8 → Option AV → (N8 (N8 (N8 (Option AV))) → Out) → Out) (fun c0 c1 c2 c3 c4 c5 c6 c7 e0 e1 v k => set2V e0 c6 e1 v fun y => k ⟨c0, c1, c2, c3, c4, c5, y, c7⟩) n e0 e1 v k)
    (fun n e0 e1 v k => N8.rec (motive := fun _ => D8 → D8 → Option AV → (N8 (N8 (N8 (Option AV))) → Out) → Out) (fun c0 c1 c2 c3 c4 c5 c6 c7 e0 e1 v k => set2V e0 c7 e1 v fun y => k ⟨c0, c1, c2, c3, c4, c5, c6, y⟩) n e0 e1 v k) x

noncomputable def set4V (x : D8) : N8 (N8 (N8 (N8 (Option AV)))) → D8 → D8 → D8 → Option AV → (N8 (N8 (N8 (N8 (Option AV)))) → Out) → Out :=
  D8.rec (motive := fun _ => N8 (N8 (N8 (N8 (Option AV)))) → D8 → D8 → D8 → Option AV → (N8 (N8 (N8 (N8 (Option AV)))) → Out) → Out)
    (fun n e0 e1 e2 v k => N8.rec (motive := fun _ => D8 → D8 → D8 → Option AV → (N8 (N8 (N8 (N8 (Option AV)))) → Out) → Out) (fun c0 c1 c2 c3 c4 c5 c6 c7 e0 e1 e2 v k => set3V e0 c0 e1 e2 v fun y => k ⟨y, c1, c2, c3, c4, c5, c6, c7⟩) n e0 e1 e2 v k)
    (fun n e0 e1 e2 v k => N8.rec (motive := fun _ => D8 → D8 → D8 → Option AV → (N8 (N8 (N8 (N8 (Option AV)))) → Out) → Out) (fun c0 c1 c2 c3 c4 c5 c6 c7 e0 e1 e2 v k => set3V e0 c1 e1 e2 v fun y => k ⟨c0, y, c2, c3, c4, c5, c6, c7⟩) n e0 e1 e2 v k)
    (fun n e0 e1 e2 v k => N8.rec (motive := fun _ => D8 → D8 → D8 → Option AV → (N8 (N8 (N8 (N8 (Option AV)))) → Out) → Out) (fun c0 c1 c2 c3 c4 c5 c6 c7 e0 e1 e2 v k => set3V e0 c2 e1 e2 v fun y => k ⟨c0, c1, y, c3, c4, c5, c6, c7⟩) n e0 e1 e2 v k)
    (fun n e0 e1 e2 v k => N8.rec (motive := fun _ => D8 → D8 → D8 → Option AV → (N8 (N8 (N8 (N8 (Option AV)))) → Out) → Out) (fun c0 c1 c2 c3 c4 c5 c6 c7 e0 e1 e2 v k => set3V e0 c3 e1 e2 v fun y => k ⟨c0, c1, c2, y, c4, c5, c6, c7⟩) n e0 e1 e2 v k)
    (fun n e0 e1 e2 v k => N8.rec (motive := fun _ => D8 → D8 → D8 → Option AV → (N8 (N8 (N8 (N8 (Option AV)))) → Out) → Out) (fun c0 c1 c2 c3 c4 c5 c6 c7 e0 e1 e2 v k => set3V e0 c4 e1 e2 v fun y => k ⟨c0, c1, c2, c3, y, c5, c6, c7⟩) n e0 e1 e2 v k)
    (fun n e0 e1 e2 v k => N8.rec (motive := fun _ => D8 → D8 → D8 → Option AV → (N8 (N8 (N8 (N8 (Option AV)))) → Out) → Out) (fun c0 c1 c2 c3 c4 c5 c6 c7 e0 e1 e2 v k => set3V e0 c5 e1 e2 v fun y => k ⟨c0, c1, c2, c3, c4, y, c6, c7⟩) n e0 e1 e2 v k)
    (fun n e0 e1 e2 v k => N8.rec (motive := fun _ => D8 → D8 → D8 → Option AV → (N8 (N8 (N8 (N8 (Option AV)))) → Out) → Out) (fun c0 c1 c2 c3 c4 c5 c6 c7 e0 e1 e2 v k => set3V e0 c6 e1 e2 v fun y => k ⟨c0, c1, c2, c3, c4, c5, y, c7⟩) n e0 e1 e2 v k)
    (fun n e0 e1 e2 v k => N8.rec (motive := fun _ => D8 → D8 → D8 → Option AV → (N8 (N8 (N8 (N8 (Option AV)))) → Out) → Out) (fun c0 c1 c2 c3 c4 c5 c6 c7 e0 e1 e2 v k => set3V e0 c7 e1 e2 v fun y => k ⟨c0, c1, c2, c3, c4, c5, c6, y⟩) n e0 e1 e2 v k) x

noncomputable def set5V (x : D8) : N8 (N8 (N8 (N8 (N8 (Option AV))))) → D8 → D8 → D8 → D8 → Option AV → (N8 (N8 (N8 (N8 (N8 (Option AV))))) → Out) → Out :=
  D8.rec (motive := fun _ => N8 (N8 (N8 (N8 (N8 (Option AV))))) → D8 → D8 → D8 → D8 → Option AV → (N8 (N8 (N8 (N8 (N8 (Option AV))))) → Out) → Out)
    (fun n e0 e1 e2 e3 v k => N8.rec (motive := fun _ => D8 → D8 → D8 → D8 → Option AV → (N8 (N8 (N8 (N8 (N8 (Option AV))))) → Out) → Out) (fun c0 c1 c2 c3 c4 c5 c6 c7 e0 e1 e2 e3 v k => set4V e0 c0 e1 e2 e3 v fun y => k ⟨y, c1, c2, c3, c4, c5, c6, c7⟩) n e0 e1 e2 e3 v k)
    (fun n e0 e1 e2 e3 v k => N8.rec (motive := fun _ => D8 → D8 → D8 → D8 → Option AV → (N8 (N8 (N8 (N8 (N8 (Option AV))))) → Out) → Out) (fun c0 c1 c2 c3 c4 c5 c6 c7 e0 e1 e2 e3 v k => set4V e0 c1 e1 e2 e3 v fun y => k ⟨c0, y, c2, c3, c4, c5, c6, c7⟩) n e0 e1 e2 e3 v k)
    (fun n e0 e1 e2 e3 v k => N8.rec (motive := fun _ => D8 → D8 → D8 → D8 → Option AV → (N8 (N8 (N8 (N8 (N8 (Option AV))))) → Out) → Out) (fun c0 c1 c2 c3 c4 c5 c6 c7 e0 e1 e2 e3 v k => set4V e0 c2 e1 e2 e3 v fun y => k ⟨c0, c1, y, c3, c4, c5, c6, c7⟩) n e0 e1 e2 e3 v k)
    (fun n e0 e1 e2 e3 v k => N8.rec (motive := fun _ => D8 → D8 → D8 → D8 → Option AV → (N8 (N8 (N8 (N8 (N8 (Option AV))))) → Out) → Out) (fun c0 c1 c2 c3 c4 c5 c6 c7 e0 e1 e2 e3 v k => set4V e0 c3 e1 e2 e3 v fun y => k ⟨c0, c1, c2, y, c4, c5, c6, c7⟩) n e0 e1 e2 e3 v k)
    (fun n e0 e1 e2 e3 v k => N8.rec (motive := fun _ => D8 → D8 → D8 → D8 → Option AV → (N8 (N8 (N8 (N8 (N8 (Option AV))))) → Out) → Out) (fun c0 c1 c2 c3 c4 c5 c6 c7 e0 e1 e2 e3 v k => set4V e0 c4 e1 e2 e3 v fun y => k ⟨c0, c1, c2, c3, y, c5, c6, c7⟩) n e0 e1 e2 e3 v k)
    (fun n e0 e1 e2 e3 v k => N8.rec (motive := fun _ => D8 → D8 → D8 → D8 → Option AV → (N8 (N8 (N8 (N8 (N8 (Option AV))))) → Out) → Out) (fun c0 c1 c2 c3 c4 c5 c6 c7 e0 e1 e2 e3 v k => set4V e0 c5 e1 e2 e3 v fun y => k ⟨c0, c1, c2, c3, c4, y, c6, c7⟩) n e0 e1 e2 e3 v k)
    (fun n e0 e1 e2 e3 v k => N8.rec (motive := fun _ => D8 → D8 → D8 → D8 → Option AV → (N8 (N8 (N8 (N8 (N8 (Option AV))))) → Out) → Out) (fun c0 c1 c2 c3 c4 c5 c6 c7 e0 e1 e2 e3 v k => set4V e0 c6 e1 e2 e3 v fun y => k ⟨c0, c1, c2, c3, c4, c5, y, c7⟩) n e0 e1 e2 e3 v k)
    (fun n e0 e1 e2 e3 v k => N8.rec (motive := fun _ => D8 → D8 → D8 → D8 → Option AV → (N8 (N8 (N8 (N8 (N8 (Option AV))))) → Out) → Out) (fun c0 c1 c2 c3 c4 c5 c6 c7 e0 e1 e2 e3 v k => set4V e0 c7 e1 e2 e3 v fun y => k ⟨c0, c1, c2, c3, c4, c5, c6, y⟩) n e0 e1 e2 e3 v k) x

noncomputable def set6V (x : D8) : N8 (N8 (N8 (N8 (N8 (N8 (Option AV)))))) → D8 → D8 → D8 → D8 → D8 → Option AV → (N8 (N8 (N8 (N8 (N8 (N8 (Option AV)))))) → Out) → Out :=
  D8.rec (motive := fun _ => N8 (N8 (N8 (N8 (N8 (N8 (Option AV)))))) → D8 → D8 → D8 → D8 → D8 → Option AV → (N8 (N8 (N8 (N8 (N8 (N8 (Option AV)))))) → Out) → Out)
    (fun n e0 e1 e2 e3 e4 v k => N8.rec (motive := fun _ => D8 → D8 → D8 → D8 → D8 → Option AV → (N8 (N8 (N8 (N8 (N8 (N8 (Option AV)))))) → Out) → Out) (fun c0 c1 c2 c3 c4 c5 c6 c7 e0 e1 e2 e3 e4 v k => set5V e0 c0 e1 e2 e3 e4 v fun y => k ⟨y, c1, c2, c3, c4, c5, c6, c7⟩) n e0 e1 e2 e3 e4 v k)
    (fun n e0 e1 e2 e3 e4 v k => N8.rec (motive := fun _ => D8 → D8 → D8 → D8 → D8 → Option AV → (N8 (N8 (N8 (N8 (N8 (N8 (Option AV)))))) → Out) → Out) (fun c0 c1 c2 c3 c4 c5 c6 c7 e0 e1 e2 e3 e4 v k => set5V e0 c1 e1 e2 e3 e4 v fun y => k ⟨c0, y, c2, c3, c4, c5, c6, c7⟩) n e0 e1 e2 e3 e4 v k)
    (fun n e0 e1 e2 e3 e4 v k => N8.rec (motive := fun _ => D8 → D8 → D8 → D8 → D8 → Option AV → (N8 (N8 (N8 (N8 (N8 (N8 (Option AV)))))) → Out) → Out) (fun c0 c1 c2 c3 c4 c5 c6 c7 e0 e1 e2 e3 e4 v k => set5V e0 c2 e1 e2 e3 e4 v fun y => k ⟨c0, c1, y, c3, c4, c5, c6, c7⟩) n e0 e1 e2 e3 e4 v k)
    (fun n e0 e1 e2 e3 e4 v k => N8.rec (motive := fun _ => D8 → D8 → D8 → D8 → D8 → Option AV → (N8 (N8 (N8 (N8 (N8 (N8 (Option AV)))))) → Out) → Out) (fun c0 c1 c2 c3 c4 c5 c6 c7 e0 e1 e2 e3 e4 v k => set5V e0 c3 e1 e2 e3 e4 v fun y => k ⟨c0, c1, c2, y, c4, c5, c6, c7⟩) n e0 e1 e2 e3 e4 v k)
    (fun n e0 e1 e2 e3 e4 v k => N8.rec (motive := fun _ => D8 → D8 → D8 → D8 → D8 → Option AV → (N8 (N8 (N8 (N8 (N8 (N8 (Option AV)))))) → Out) → Out) (fun c0 c1 c2 c3 c4 c5 c6 c7 e0 e1 e2 e3 e4 v k => set5V e0 c4 e1 e2 e3 e4 v fun y => k ⟨c0, c1, c2, c3, y, c5, c6, c7⟩) n e0 e1 e2 e3 e4 v k)
    (fun n e0 e1 e2 e3 e4 v k => N8.rec (motive := fun _ => D8 → D8 → D8 → D8 → D8 → Option AV → (N8 (N8 (N8 (N8 (N8 (N8 (Option AV)))))) → Out) → Out) (fun c0 c1 c2 c3 c4 c5 c6 c7 e0 e1 e2 e3 e4 v k => set5V e0 c5 e1 e2 e3 e4 v fun y => k ⟨c0, c1, c2, c3, c4, y, c6, c7⟩) n e0 e1 e2 e3 e4 v k)
    (fun n e0 e1 e2 e3 e4 v k => N8.rec (motive := fun _ => D8 → D8 → D8 → D8 → D8 → Option AV → (N8 (N8 (N8 (N8 (N8 (N8 (Option AV)))))) → Out) → Out) (fun c0 c1 c2 c3 c4 c5 c6 c7 e0 e1 e2 e3 e4 v k => set5V e0 c6 e1 e2 e3 e4 v fun y => k ⟨c0, c1, c2, c3, c4, c5, y, c7⟩) n e0 e1 e2 e3 e4 v k)
    (fun n e0 e1 e2 e3 e4 v k => N8.rec (motive := fun _ => D8 → D8 → D8 → D8 → D8 → Option AV → (N8 (N8 (N8 (N8 (N8 (N8 (Option AV)))))) → Out) → Out) (fun c0 c1 c2 c3 c4 c5 c6 c7 e0 e1 e2 e3 e4 v k => set5V e0 c7 e1 e2 e3 e4 v fun y => k ⟨c0, c1, c2, c3, c4, c5, c6, y⟩) n e0 e1 e2 e3 e4 v k) x

noncomputable def setV (x : Pos) : Option AV → T AV → (T AV → Out) → Out :=
  Pos.rec (motive := fun _ => Option AV → T AV → (T AV → Out) → Out)
    (fun x y v t k => T.rec (motive := fun _ => D8 → D8 → Option AV → (T AV → Out) → Out) (fun a b c s x y v k => set2V x a y v fun a => k ⟨a, b, c, s⟩) t x y v k)
    (fun x y z w v t k => T.rec (motive := fun _ => D8 → D8 → D8 → D8 → Option AV → (T AV → Out) → Out) (fun a b c s x y z w v k => set4V x b y z w v fun b => k ⟨a, b, c, s⟩) t x y z w v k)
    (fun x y z w u r v t k => T.rec (motive := fun _ => D8 → D8 → D8 → D8 → D8 → D8 → Option AV → (T AV → Out) → Out) (fun a b c s x y z w u r v k => set6V x c y z w u r v fun c => k ⟨a, b, c, s⟩) t x y z w u r v k)
    (fun q v t k => k ⟨t.a, t.b, t.c, t.s.set q v⟩) x

theorem get1V_eq (d : D8) (n : N8 (Option AV)) : get1V d n = n.get d := by cases d <;> rfl

theorem get2V_eq (d : D8) (n : N8 (N8 (Option AV))) : get2V d n = n.get d := by cases d <;> rfl

theorem get3V_eq (d : D8) (n : N8 (N8 (N8 (Option AV)))) : get3V d n = n.get d := by cases d <;> rfl

theorem get4V_eq (d : D8) (n : N8 (N8 (N8 (N8 (Option AV))))) : get4V d n = n.get d := by cases d <;> rfl

theorem get5V_eq (d : D8) (n : N8 (N8 (N8 (N8 (N8 (Option AV)))))) : get5V d n = n.get d := by cases d <;> rfl

theorem get6V_eq (d : D8) (n : N8 (N8 (N8 (N8 (N8 (N8 (Option AV))))))) : get6V d n = n.get d := by cases d <;> rfl

theorem getV_eq (p : Pos) (t : T AV) : getV p t = T.get p t := by
  cases p <;> (try rfl)
  · show get1V _ (get2V _ _) = _
    rw [get1V_eq, get2V_eq]; rfl
  · show get1V _ (get2V _ (get3V _ (get4V _ _))) = _
    rw [get1V_eq, get2V_eq, get3V_eq, get4V_eq]; rfl
  · show get1V _ (get2V _ (get3V _ (get4V _ (get5V _ (get6V _ _))))) = _
    rw [get1V_eq, get2V_eq, get3V_eq, get4V_eq, get5V_eq, get6V_eq]; rfl

theorem set1V_eq (x : D8) (n : N8 (Option AV)) (v : Option AV) (k : N8 (Option AV) → Out) : set1V x n  v k = k (n.set x v) := by
  obtain ⟨c0, c1, c2, c3, c4, c5, c6, c7⟩ := n
  cases x <;> rfl

theorem set2V_eq (x : D8) (n : N8 (N8 (Option AV))) (e0 : D8) (v : Option AV) (k : N8 (N8 (Option AV)) → Out) : set2V x n e0 v k = k (set2 x e0 v n) := by
  obtain ⟨c0, c1, c2, c3, c4, c5, c6, c7⟩ := n
  cases x <;> exact set1V_eq e0 _  v _

theorem set3V_eq (x : D8) (n : N8 (N8 (N8 (Option AV)))) (e0 e1 : D8) (v : Option AV) (k : N8 (N8 (N8 (Option AV))) → Out) : set3V x n e0 e1 v k = k (n.set x (set2 e0 e1 v (n.get x))) := by
  obtain ⟨c0, c1, c2, c3, c4, c5, c6, c7⟩ := n
  cases x <;> exact set2V_eq e0 _ e1 v _

theorem set4V_eq (x : D8) (n : N8 (N8 (N8 (N8 (Option AV))))) (e0 e1 e2 : D8) (v : Option AV) (k : N8 (N8 (N8 (N8 (Option AV)))) → Out) : set4V x n e0 e1 e2 v k = k (set4 x e0 e1 e2 v n) := by
  obtain ⟨c0, c1, c2, c3, c4, c5, c6, c7⟩ := n
  cases x <;> exact set3V_eq e0 _ e1 e2 v _

theorem set5V_eq (x : D8) (n : N8 (N8 (N8 (N8 (N8 (Option AV)))))) (e0 e1 e2 e3 : D8) (v : Option AV) (k : N8 (N8 (N8 (N8 (N8 (Option AV))))) → Out) : set5V x n e0 e1 e2 e3 v k = k (n.set x (set4 e0 e1 e2 e3 v (n.get x))) := by
  obtain ⟨c0, c1, c2, c3, c4, c5, c6, c7⟩ := n
  cases x <;> exact set4V_eq e0 _ e1 e2 e3 v _

theorem set6V_eq (x : D8) (n : N8 (N8 (N8 (N8 (N8 (N8 (Option AV))))))) (e0 e1 e2 e3 e4 : D8) (v : Option AV) (k : N8 (N8 (N8 (N8 (N8 (N8 (Option AV)))))) → Out) : set6V x n e0 e1 e2 e3 e4 v k = k (set6 x e0 e1 e2 e3 e4 v n) := by
  obtain ⟨c0, c1, c2, c3, c4, c5, c6, c7⟩ := n
  cases x <;> exact set5V_eq e0 _ e1 e2 e3 e4 v _

theorem setV_eq (p : Pos) (v : Option AV) (t : T AV) (k : T AV → Out) : setV p v t k = k (T.set p v t) := by
  obtain ⟨a, b, c, s⟩ := t
  cases p with
  | a x y => exact set2V_eq x a y v _
  | b x y z w => exact set4V_eq x b y z w v _
  | c x y z w u r => exact set6V_eq x c y z w u r v _
  | s q => rfl

noncomputable def get1B (x : D8) : N8 (Option Blk) → Option Blk :=
  D8.rec (motive := fun _ => N8 (Option Blk) → Option Blk)
    (fun n => n.c0)
    (fun n => n.c1)
    (fun n => n.c2)
    (fun n => n.c3)
    (fun n => n.c4)
    (fun n => n.c5)
    (fun n => n.c6)
    (fun n => n.c7) x

noncomputable def get2B (x : D8) : N8 (N8 (Option Blk)) → N8 (Option Blk) :=
  D8.rec (motive := fun _ => N8 (N8 (Option Blk)) → N8 (Option Blk))
    (fun n => n.c0)
    (fun n => n.c1)
    (fun n => n.c2)
    (fun n => n.c3)
    (fun n => n.c4)
    (fun n => n.c5)
    (fun n => n.c6)
    (fun n => n.c7) x

noncomputable def get3B (x : D8) : N8 (N8 (N8 (Option Blk))) → N8 (N8 (Option Blk)) :=
  D8.rec (motive := fun _ => N8 (N8 (N8 (Option Blk))) → N8 (N8 (Option Blk)))
    (fun n => n.c0)
    (fun n => n.c1)
    (fun n => n.c2)
    (fun n => n.c3)
    (fun n => n.c4)
    (fun n => n.c5)
    (fun n => n.c6)
    (fun n => n.c7) x

noncomputable def get4B (x : D8) : N8 (N8 (N8 (N8 (Option Blk)))) → N8 (N8 (N8 (Option Blk))) :=
  D8.rec (motive := fun _ => N8 (N8 (N8 (N8 (Option Blk)))) → N8 (N8 (N8 (Option Blk))))
    (fun n => n.c0)
    (fun n => n.c1)
    (fun n => n.c2)
    (fun n => n.c3)
    (fun n => n.c4)
    (fun n => n.c5)
    (fun n => n.c6)
    (fun n => n.c7) x

noncomputable def get5B (x : D8) : N8 (N8 (N8 (N8 (N8 (Option Blk))))) → N8 (N8 (N8 (N8 (Option Blk)))) :=
  D8.rec (motive := fun _ => N8 (N8 (N8 (N8 (N8 (Option Blk))))) → N8 (N8 (N8 (N8 (Option Blk)))))
    (fun n => n.c0)
    (fun n => n.c1)
    (fun n => n.c2)
    (fun n => n.c3)
    (fun n => n.c4)
    (fun n => n.c5)
    (fun n => n.c6)
    (fun n => n.c7) x

noncomputable def get6B (x : D8) : N8 (N8 (N8 (N8 (N8 (N8 (Option Blk)))))) → N8 (N8 (N8 (N8 (N8 (Option Blk))))) :=
  D8.rec (motive := fun _ => N8 (N8 (N8 (N8 (N8 (N8 (Option Blk)))))) → N8 (N8 (N8 (N8 (N8 (Option Blk))))))
    (fun n => n.c0)
    (fun n => n.c1)
    (fun n => n.c2)
    (fun n => n.c3)
    (fun n => n.c4)
    (fun n => n.c5)
    (fun n => n.c6)
    (fun n => n.c7) x

noncomputable def getB (x : Pos) : T Blk → Option Blk :=
  Pos.rec (motive := fun _ => T Blk → Option Blk)
    (fun x y t => get1B y (get2B x t.a))
    (fun x y z w t => get1B w (get2B z (get3B y (get4B x t.b))))
    (fun x y z w u r t => get1B r (get2B u (get3B w (get4B z (get5B y (get6B x t.c))))))
    (fun q t => BT.get q t.s) x

noncomputable def set1B (x : D8) : N8 (Option Blk) → Option Blk → (N8 (Option Blk) → Out) → Out :=
  D8.rec (motive := fun _ => N8 (Option Blk) → Option Blk → (N8 (Option Blk) → Out) → Out)
    (fun n v k => N8.rec (motive := fun _ => Option Blk → (N8 (Option Blk) → Out) → Out) (fun _ c1 c2 c3 c4 c5 c6 c7 v k => k ⟨v, c1, c2, c3, c4, c5, c6, c7⟩) n  v k)
    (fun n v k => N8.rec (motive := fun _ => Option Blk → (N8 (Option Blk) → Out) → Out) (fun c0 _ c2 c3 c4 c5 c6 c7 v k => k ⟨c0, v, c2, c3, c4, c5, c6, c7⟩) n  v k)
    (fun n v k => N8.rec (motive := fun _ => Option Blk → (N8 (Option Blk) → Out) → Out) (fun c0 c1 _ c3 c4 c5 c6 c7 v k => k ⟨c0, c1, v, c3, c4, c5, c6, c7⟩) n  v k)
    (fun n v k => N8.rec (motive := fun _ => Option Blk → (N8 (Option Blk) → Out) → Out) (fun c0 c1 c2 _ c4 c5 c6 c7 v k => k ⟨c0, c1, c2, v, c4, c5, c6, c7⟩) n  v k)
    (fun n v k => N8.rec (motive := fun _ => Option Blk → (N8 (Option Blk) → Out) → Out) (fun c0 c1 c2 c3 _ c5 c6 c7 v k => k ⟨c0, c1, c2, c3, v, c5, c6, c7⟩) n  v k)
    (fun n v k => N8.rec (motive := fun _ => Option Blk → (N8 (Option Blk) → Out) → Out) (fun c0 c1 c2 c3 c4 _ c6 c7 v k => k ⟨c0, c1, c2, c3, c4, v, c6, c7⟩) n  v k)
    (fun n v k => N8.rec (motive := fun _ => Option Blk → (N8 (Option Blk) → Out) → Out) (fun c0 c1 c2 c3 c4 c5 _ c7 v k => k ⟨c0, c1, c2, c3, c4, c5, v, c7⟩) n  v k)
    (fun n v k => N8.rec (motive := fun _ => Option Blk → (N8 (Option Blk) → Out) → Out) (fun c0 c1 c2 c3 c4 c5 c6 _ v k => k ⟨c0, c1, c2, c3, c4, c5, c6, v⟩) n  v k) x

noncomputable def set2B (x : D8) : N8 (N8 (Option Blk)) → D8 → Option Blk → (N8 (N8 (Option Blk)) → Out) → Out :=
  D8.rec (motive := fun _ => N8 (N8 (Option Blk)) → D8 → Option Blk → (N8 (N8 (Option Blk)) → Out) → Out)
    (fun n e0 v k => N8.rec (motive := fun _ => D8 → Option Blk → (N8 (N8 (Option Blk)) → Out) → Out) (fun c0 c1 c2 c3 c4 c5 c6 c7 e0 v k => set1B e0 c0  v fun y => k ⟨y, c1, c2, c3, c4, c5, c6, c7⟩) n e0 v k)
    (fun n e0 v k => N8.rec (motive := fun _ => D8 → Option Blk → (N8 (N8 (Option Blk)) → Out) → Out) (fun c0 c1 c2 c3 c4 c5 c6 c7 e0 v k => set1B e0 c1  v fun y => k ⟨c0, y, c2, c3, c4, c5, c6, c7⟩) n e0 v k)
    (fun n e0 v k => N8.rec (motive := fun _ => D8 → Option Blk → (N8 (N8 (Option Blk)) → Out) → Out) (fun c0 c1 c2 c3 c4 c5 c6 c7 e0 v k => set1B e0 c2  v fun y => k ⟨c0, c1, y, c3, c4, c5, c6, c7⟩) n e0 v k)
    (fun n e0 v k => N8.rec (motive := fun _ => D8 → Option Blk → (N8 (N8 (Option Blk)) → Out) → Out) (fun c0 c1 c2 c3 c4 c5 c6 c7 e0 v k => set1B e0 c3  v fun y => k ⟨c0, c1, c2, y, c4, c5, c6, c7⟩) n e0 v k)
    (fun n e0 v k => N8.rec (motive := fun _ => D8 → Option Blk → (N8 (N8 (Option Blk)) → Out) → Out) (fun c0 c1 c2 c3 c4 c5 c6 c7 e0 v k => set1B e0 c4  v fun y => k ⟨c0, c1, c2, c3, y, c5, c6, c7⟩) n e0 v k)
    (fun n e0 v k => N8.rec (motive := fun _ => D8 → Option Blk → (N8 (N8 (Option Blk)) → Out) → Out) (fun c0 c1 c2 c3 c4 c5 c6 c7 e0 v k => set1B e0 c5  v fun y => k ⟨c0, c1, c2, c3, c4, y, c6, c7⟩) n e0 v k)
    (fun n e0 v k => N8.rec (motive := fun _ => D8 → Option Blk → (N8 (N8 (Option Blk)) → Out) → Out) (fun c0 c1 c2 c3 c4 c5 c6 c7 e0 v k => set1B e0 c6  v fun y => k ⟨c0, c1, c2, c3, c4, c5, y, c7⟩) n e0 v k)
    (fun n e0 v k => N8.rec (motive := fun _ => D8 → Option Blk → (N8 (N8 (Option Blk)) → Out) → Out) (fun c0 c1 c2 c3 c4 c5 c6 c7 e0 v k => set1B e0 c7  v fun y => k ⟨c0, c1, c2, c3, c4, c5, c6, y⟩) n e0 v k) x

noncomputable def set3B (x : D8) : N8 (N8 (N8 (Option Blk))) → D8 → D8 → Option Blk → (N8 (N8 (N8 (Option Blk))) → Out) → Out :=
  D8.rec (motive := fun _ => N8 (N8 (N8 (Option Blk))) → D8 → D8 → Option Blk → (N8 (N8 (N8 (Option Blk))) → Out) → Out)
    (fun n e0 e1 v k => N8.rec (motive := fun _ => D8 → D8 → Option Blk → (N8 (N8 (N8 (Option Blk))) → Out) → Out) (fun c0 c1 c2 c3 c4 c5 c6 c7 e0 e1 v k => set2B e0 c0 e1 v fun y => k ⟨y, c1, c2, c3, c4, c5, c6, c7⟩) n e0 e1 v k)
    (fun n e0 e1 v k => N8.rec (motive := fun _ => D8 → D8 → Option Blk → (N8 (N8 (N8 (Option Blk))) → Out) → Out) (fun c0 c1 c2 c3 c4 c5 c6 c7 e0 e1 v k => set2B e0 c1 e1 v fun y => k ⟨c0, y, c2, c3, c4, c5, c6, c7⟩) n e0 e1 v k)
    (fun n e0 e1 v k => N8.rec (motive := fun _ => D8 → D8 → Option Blk → (N8 (N8 (N8 (Option Blk))) → Out) → Out) (fun c0 c1 c2 c3 c4 c5 c6 c7 e0 e1 v k => set2B e0 c2 e1 v fun y => k ⟨c0, c1, y, c3, c4, c5, c6, c7⟩) n e0 e1 v k)
    (fun n e0 e1 v k => N8.rec (motive := fun _ => D8 → D8 → Option Blk → (N8 (N8 (N8 (Option Blk))) → Out) → Out) (fun c0 c1 c2 c3 c4 c5 c6 c7 e0 e1 v k => set2B e0 c3 e1 v fun y => k ⟨c0, c1, c2, y, c4, c5, c6, c7⟩) n e0 e1 v k)
    (fun n e0 e1 v k => N8.rec (motive := fun _ => D8 → D8 → Option Blk → (N8 (N8 (N8 (Option Blk))) → Out) → Out) (fun c0 c1 c2 c3 c4 c5 c6 c7 e0 e1 v k => set2B e0 c4 e1 v fun y => k ⟨c0, c1, c2, c3, y, c5, c6, c7⟩) n e0 e1 v k)
    (fun n e0 e1 v k => N8.rec (motive := fun _ => D8 → D8 → Option Blk → (N8 (N8 (N8 (Option Blk))) → Out) → Out) (fun c0 c1 c2 c3 c4 c5 c6 c7 e0 e1 v k => set2B e0 c5 e1 v fun y => k ⟨c0, c1, c2, c3, c4, y, c6, c7⟩) n e0 e1 v k)
    (fun n e0 e1 v k => N8.rec (motive := fun _ => D8 → D8 → Option Blk → (N8 (N8 (N8 (Option Blk))) → Out) → Out) (fun c0 c1 c2 c3 c4 c5 c6 c7 e0 e1 v k => set2B e0 c6 e1 v fun y => k ⟨c0, c1, c2, c3, c4, c5, y, c7⟩) n e0 e1 v k)
    (fun n e0 e1 v k => N8.rec (motive := fun _ => D8 → D8 → Option Blk → (N8 (N8 (N8 (Option Blk))) → Out) → Out) (fun c0 c1 c2 c3 c4 c5 c6 c7 e0 e1 v k => set2B e0 c7 e1 v fun y => k ⟨c0, c1, c2, c3, c4, c5, c6, y⟩) n e0 e1 v k) x

noncomputable def set4B (x : D8) : N8 (N8 (N8 (N8 (Option Blk)))) → D8 → D8 → D8 → Option Blk → (N8 (N8 (N8 (N8 (Option Blk)))) → Out) → Out :=
  D8.rec (motive := fun _ => N8 (N8 (N8 (N8 (Option Blk)))) → D8 → D8 → D8 → Option Blk → (N8 (N8 (N8 (N8 (Option Blk)))) → Out) → Out)
    (fun n e0 e1 e2 v k => N8.rec (motive := fun _ => D8 → D8 → D8 → Option Blk → (N8 (N8 (N8 (N8 (Option Blk)))) → Out) → Out) (fun c0 c1 c2 c3 c4 c5 c6 c7 e0 e1 e2 v k => set3B e0 c0 e1 e2 v fun y => k ⟨y, c1, c2, c3, c4, c5, c6, c7⟩) n e0 e1 e2 v k)
    (fun n e0 e1 e2 v k => N8.rec (motive := fun _ => D8 → D8 → D8 → Option Blk → (N8 (N8 (N8 (N8 (Option Blk)))) → Out) → Out) (fun c0 c1 c2 c3 c4 c5 c6 c7 e0 e1 e2 v k => set3B e0 c1 e1 e2 v fun y => k ⟨c0, y, c2, c3, c4, c5, c6, c7⟩) n e0 e1 e2 v k)
    (fun n e0 e1 e2 v k => N8.rec (motive := fun _ => D8 → D8 → D8 → Option Blk → (N8 (N8 (N8 (N8 (Option Blk)))) → Out) → Out) (fun c0 c1 c2 c3 c4 c5 c6 c7 e0 e1 e2 v k => set3B e0 c2 e1 e2 v fun y => k ⟨c0, c1, y, c3, c4, c5, c6, c7⟩) n e0 e1 e2 v k)
    (fun n e0 e1 e2 v k => N8.rec (motive := fun _ => D8 → D8 → D8 → Option Blk → (N8 (N8 (N8 (N8 (Option Blk)))) → Out) → Out) (fun c0 c1 c2 c3 c4 c5 c6 c7 e0 e1 e2 v k => set3B e0 c3 e1 e2 v fun y => k ⟨c0, c1, c2, y, c4, c5, c6, c7⟩) n e0 e1 e2 v k)
    (fun n e0 e1 e2 v k => N8.rec (motive := fun _ => D8 → D8 → D8 → Option Blk → (N8 (N8 (N8 (N8 (Option Blk)))) → Out) → Out) (fun c0 c1 c2 c3 c4 c5 c6 c7 e0 e1 e2 v k => set3B e0 c4 e1 e2 v fun y => k ⟨c0, c1, c2, c3, y, c5, c6, c7⟩) n e0 e1 e2 v k)
    (fun n e0 e1 e2 v k => N8.rec (motive := fun _ => D8 → D8 → D8 → Option Blk → (N8 (N8 (N8 (N8 (Option Blk)))) → Out) → Out) (fun c0 c1 c2 c3 c4 c5 c6 c7 e0 e1 e2 v k => set3B e0 c5 e1 e2 v fun y => k ⟨c0, c1, c2, c3, c4, y, c6, c7⟩) n e0 e1 e2 v k)
    (fun n e0 e1 e2 v k => N8.rec (motive := fun _ => D8 → D8 → D8 → Option Blk → (N8 (N8 (N8 (N8 (Option Blk)))) → Out) → Out) (fun c0 c1 c2 c3 c4 c5 c6 c7 e0 e1 e2 v k => set3B e0 c6 e1 e2 v fun y => k ⟨c0, c1, c2, c3, c4, c5, y, c7⟩) n e0 e1 e2 v k)
    (fun n e0 e1 e2 v k => N8.rec (motive := fun _ => D8 → D8 → D8 → Option Blk → (N8 (N8 (N8 (N8 (Option Blk)))) → Out) → Out) (fun c0 c1 c2 c3 c4 c5 c6 c7 e0 e1 e2 v k => set3B e0 c7 e1 e2 v fun y => k ⟨c0, c1, c2, c3, c4, c5, c6, y⟩) n e0 e1 e2 v k) x

noncomputable def set5B (x : D8) : N8 (N8 (N8 (N8 (N8 (Option Blk))))) → D8 → D8 → D8 → D8 → Option Blk → (N8 (N8 (N8 (N8 (N8 (Option Blk))))) → Out) → Out :=
  D8.rec (motive := fun _ => N8 (N8 (N8 (N8 (N8 (Option Blk))))) → D8 → D8 → D8 → D8 → Option Blk → (N8 (N8 (N8 (N8 (N8 (Option Blk))))) → Out) → Out)
    (fun n e0 e1 e2 e3 v k => N8.rec (motive := fun _ => D8 → D8 → D8 → D8 → Option Blk → (N8 (N8 (N8 (N8 (N8 (Option Blk))))) → Out) → Out) (fun c0 c1 c2 c3 c4 c5 c6 c7 e0 e1 e2 e3 v k => set4B e0 c0 e1 e2 e3 v fun y => k ⟨y, c1, c2, c3, c4, c5, c6, c7⟩) n e0 e1 e2 e3 v k)
    (fun n e0 e1 e2 e3 v k => N8.rec (motive := fun _ => D8 → D8 → D8 → D8 → Option Blk → (N8 (N8 (N8 (N8 (N8 (Option Blk))))) → Out) → Out) (fun c0 c1 c2 c3 c4 c5 c6 c7 e0 e1 e2 e3 v k => set4B e0 c1 e1 e2 e3 v fun y => k ⟨c0, y, c2, c3, c4, c5, c6, c7⟩) n e0 e1 e2 e3 v k)
    (fun n e0 e1 e2 e3 v k => N8.rec (motive := fun _ => D8 → D8 → D8 → D8 → Option Blk → (N8 (N8 (N8 (N8 (N8 (Option Blk))))) → Out) → Out) (fun c0 c1 c2 c3 c4 c5 c6 c7 e0 e1 e2 e3 v k => set4B e0 c2 e1 e2 e3 v fun y => k ⟨c0, c1, y, c3, c4, c5, c6, c7⟩) n e0 e1 e2 e3 v k)
    (fun n e0 e1 e2 e3 v k => N8.rec (motive := fun _ => D8 → D8 → D8 → D8 → Option Blk → (N8 (N8 (N8 (N8 (N8 (Option Blk))))) → Out) → Out) (fun c0 c1 c2 c3 c4 c5 c6 c7 e0 e1 e2 e3 v k => set4B e0 c3 e1 e2 e3 v fun y => k ⟨c0, c1, c2, y, c4, c5, c6, c7⟩) n e0 e1 e2 e3 v k)
    (fun n e0 e1 e2 e3 v k => N8.rec (motive := fun _ => D8 → D8 → D8 → D8 → Option Blk → (N8 (N8 (N8 (N8 (N8 (Option Blk))))) → Out) → Out) (fun c0 c1 c2 c3 c4 c5 c6 c7 e0 e1 e2 e3 v k => set4B e0 c4 e1 e2 e3 v fun y => k ⟨c0, c1, c2, c3, y, c5, c6, c7⟩) n e0 e1 e2 e3 v k)
    (fun n e0 e1 e2 e3 v k => N8.rec (motive := fun _ => D8 → D8 → D8 → D8 → Option Blk → (N8 (N8 (N8 (N8 (N8 (Option Blk))))) → Out) → Out) (fun c0 c1 c2 c3 c4 c5 c6 c7 e0 e1 e2 e3 v k => set4B e0 c5 e1 e2 e3 v fun y => k ⟨c0, c1, c2, c3, c4, y, c6, c7⟩) n e0 e1 e2 e3 v k)
    (fun n e0 e1 e2 e3 v k => N8.rec (motive := fun _ => D8 → D8 → D8 → D8 → Option Blk → (N8 (N8 (N8 (N8 (N8 (Option Blk))))) → Out) → Out) (fun c0 c1 c2 c3 c4 c5 c6 c7 e0 e1 e2 e3 v k => set4B e0 c6 e1 e2 e3 v fun y => k ⟨c0, c1, c2, c3, c4, c5, y, c7⟩) n e0 e1 e2 e3 v k)
    (fun n e0 e1 e2 e3 v k => N8.rec (motive := fun _ => D8 → D8 → D8 → D8 → Option Blk → (N8 (N8 (N8 (N8 (N8 (Option Blk))))) → Out) → Out) (fun c0 c1 c2 c3 c4 c5 c6 c7 e0 e1 e2 e3 v k => set4B e0 c7 e1 e2 e3 v fun y => k ⟨c0, c1, c2, c3, c4, c5, c6, y⟩) n e0 e1 e2 e3 v k) x

noncomputable def set6B (x : D8) : N8 (N8 (N8 (N8 (N8 (N8 (Option Blk)))))) → D8 → D8 → D8 → D8 → D8 → Option Blk → (N8 (N8 (N8 (N8 (N8 (N8 (Option Blk)))))) → Out) → Out :=
  D8.rec (motive := fun _ => N8 (N8 (N8 (N8 (N8 (N8 (Option Blk)))))) → D8 → D8 → D8 → D8 → D8 → Option Blk → (N8 (N8 (N8 (N8 (N8 (N8 (Option Blk)))))) → Out) → Out)
    (fun n e0 e1 e2 e3 e4 v k => N8.rec (motive := fun _ => D8 → D8 → D8 → D8 → D8 → Option Blk → (N8 (N8 (N8 (N8 (N8 (N8 (Option Blk)))))) → Out) → Out) (fun c0 c1 c2 c3 c4 c5 c6 c7 e0 e1 e2 e3 e4 v k => set5B e0 c0 e1 e2 e3 e4 v fun y => k ⟨y, c1, c2, c3, c4, c5, c6, c7⟩) n e0 e1 e2 e3 e4 v k)
    (fun n e0 e1 e2 e3 e4 v k => N8.rec (motive := fun _ => D8 → D8 → D8 → D8 → D8 → Option Blk → (N8 (N8 (N8 (N8 (N8 (N8 (Option Blk)))))) → Out) → Out) (fun c0 c1 c2 c3 c4 c5 c6 c7 e0 e1 e2 e3 e4 v k => set5B e0 c1 e1 e2 e3 e4 v fun y => k ⟨c0, y, c2, c3, c4, c5, c6, c7⟩) n e0 e1 e2 e3 e4 v k)
    (fun n e0 e1 e2 e3 e4 v k => N8.rec (motive := fun _ => D8 → D8 → D8 → D8 → D8 → Option Blk → (N8 (N8 (N8 (N8 (N8 (N8 (Option Blk)))))) → Out) → Out) (fun c0 c1 c2 c3 c4 c5 c6 c7 e0 e1 e2 e3 e4 v k => set5B e0 c2 e1 e2 e3 e4 v fun y => k ⟨c0, c1, y, c3, c4, c5, c6, c7⟩) n e0 e1 e2 e3 e4 v k)
    (fun n e0 e1 e2 e3 e4 v k => N8.rec (motive := fun _ => D8 → D8 → D8 → D8 → D8 → Option Blk → (N8 (N8 (N8 (N8 (N8 (N8 (Option Blk)))))) → Out) → Out) (fun c0 c1 c2 c3 c4 c5 c6 c7 e0 e1 e2 e3 e4 v k => set5B e0 c3 e1 e2 e3 e4 v fun y => k ⟨c0, c1, c2, y, c4, c5, c6, c7⟩) n e0 e1 e2 e3 e4 v k)
    (fun n e0 e1 e2 e3 e4 v k => N8.rec (motive := fun _ => D8 → D8 → D8 → D8 → D8 → Option Blk → (N8 (N8 (N8 (N8 (N8 (N8 (Option Blk)))))) → Out) → Out) (fun c0 c1 c2 c3 c4 c5 c6 c7 e0 e1 e2 e3 e4 v k => set5B e0 c4 e1 e2 e3 e4 v fun y => k ⟨c0, c1, c2, c3, y, c5, c6, c7⟩) n e0 e1 e2 e3 e4 v k)
    (fun n e0 e1 e2 e3 e4 v k => N8.rec (motive := fun _ => D8 → D8 → D8 → D8 → D8 → Option Blk → (N8 (N8 (N8 (N8 (N8 (N8 (Option Blk)))))) → Out) → Out) (fun c0 c1 c2 c3 c4 c5 c6 c7 e0 e1 e2 e3 e4 v k => set5B e0 c5 e1 e2 e3 e4 v fun y => k ⟨c0, c1, c2, c3, c4, y, c6, c7⟩) n e0 e1 e2 e3 e4 v k)
    (fun n e0 e1 e2 e3 e4 v k => N8.rec (motive := fun _ => D8 → D8 → D8 → D8 → D8 → Option Blk → (N8 (N8 (N8 (N8 (N8 (N8 (Option Blk)))))) → Out) → Out) (fun c0 c1 c2 c3 c4 c5 c6 c7 e0 e1 e2 e3 e4 v k => set5B e0 c6 e1 e2 e3 e4 v fun y => k ⟨c0, c1, c2, c3, c4, c5, y, c7⟩) n e0 e1 e2 e3 e4 v k)
    (fun n e0 e1 e2 e3 e4 v k => N8.rec (motive := fun _ => D8 → D8 → D8 → D8 → D8 → Option Blk → (N8 (N8 (N8 (N8 (N8 (N8 (Option Blk)))))) → Out) → Out) (fun c0 c1 c2 c3 c4 c5 c6 c7 e0 e1 e2 e3 e4 v k => set5B e0 c7 e1 e2 e3 e4 v fun y => k ⟨c0, c1, c2, c3, c4, c5, c6, y⟩) n e0 e1 e2 e3 e4 v k) x

noncomputable def setB (x : Pos) : Option Blk → T Blk → (T Blk → Out) → Out :=
  Pos.rec (motive := fun _ => Option Blk → T Blk → (T Blk → Out) → Out)
    (fun x y v t k => T.rec (motive := fun _ => D8 → D8 → Option Blk → (T Blk → Out) → Out) (fun a b c s x y v k => set2B x a y v fun a => k ⟨a, b, c, s⟩) t x y v k)
    (fun x y z w v t k => T.rec (motive := fun _ => D8 → D8 → D8 → D8 → Option Blk → (T Blk → Out) → Out) (fun a b c s x y z w v k => set4B x b y z w v fun b => k ⟨a, b, c, s⟩) t x y z w v k)
    (fun x y z w u r v t k => T.rec (motive := fun _ => D8 → D8 → D8 → D8 → D8 → D8 → Option Blk → (T Blk → Out) → Out) (fun a b c s x y z w u r v k => set6B x c y z w u r v fun c => k ⟨a, b, c, s⟩) t x y z w u r v k)
    (fun q v t k => k ⟨t.a, t.b, t.c, t.s.set q v⟩) x

theorem get1B_eq (d : D8) (n : N8 (Option Blk)) : get1B d n = n.get d := by cases d <;> rfl

theorem get2B_eq (d : D8) (n : N8 (N8 (Option Blk))) : get2B d n = n.get d := by cases d <;> rfl

theorem get3B_eq (d : D8) (n : N8 (N8 (N8 (Option Blk)))) : get3B d n = n.get d := by cases d <;> rfl

theorem get4B_eq (d : D8) (n : N8 (N8 (N8 (N8 (Option Blk))))) : get4B d n = n.get d := by cases d <;> rfl

theorem get5B_eq (d : D8) (n : N8 (N8 (N8 (N8 (N8 (Option Blk)))))) : get5B d n = n.get d := by cases d <;> rfl

theorem get6B_eq (d : D8) (n : N8 (N8 (N8 (N8 (N8 (N8 (Option Blk))))))) : get6B d n = n.get d := by cases d <;> rfl

theorem getB_eq (p : Pos) (t : T Blk) : getB p t = T.get p t := by
  cases p <;> (try rfl)
  · show get1B _ (get2B _ _) = _
    rw [get1B_eq, get2B_eq]; rfl
  · show get1B _ (get2B _ (get3B _ (get4B _ _))) = _
    rw [get1B_eq, get2B_eq, get3B_eq, get4B_eq]; rfl
  · show get1B _ (get2B _ (get3B _ (get4B _ (get5B _ (get6B _ _))))) = _
    rw [get1B_eq, get2B_eq, get3B_eq, get4B_eq, get5B_eq, get6B_eq]; rfl

theorem set1B_eq (x : D8) (n : N8 (Option Blk)) (v : Option Blk) (k : N8 (Option Blk) → Out) : set1B x n  v k = k (n.set x v) := by
  obtain ⟨c0, c1, c2, c3, c4, c5, c6, c7⟩ := n
  cases x <;> rfl

theorem set2B_eq (x : D8) (n : N8 (N8 (Option Blk))) (e0 : D8) (v : Option Blk) (k : N8 (N8 (Option Blk)) → Out) : set2B x n e0 v k = k (set2 x e0 v n) := by
  obtain ⟨c0, c1, c2, c3, c4, c5, c6, c7⟩ := n
  cases x <;> exact set1B_eq e0 _  v _

theorem set3B_eq (x : D8) (n : N8 (N8 (N8 (Option Blk)))) (e0 e1 : D8) (v : Option Blk) (k : N8 (N8 (N8 (Option Blk))) → Out) : set3B x n e0 e1 v k = k (n.set x (set2 e0 e1 v (n.get x))) := by
  obtain ⟨c0, c1, c2, c3, c4, c5, c6, c7⟩ := n
  cases x <;> exact set2B_eq e0 _ e1 v _

theorem set4B_eq (x : D8) (n : N8 (N8 (N8 (N8 (Option Blk))))) (e0 e1 e2 : D8) (v : Option Blk) (k : N8 (N8 (N8 (N8 (Option Blk)))) → Out) : set4B x n e0 e1 e2 v k = k (set4 x e0 e1 e2 v n) := by
  obtain ⟨c0, c1, c2, c3, c4, c5, c6, c7⟩ := n
  cases x <;> exact set3B_eq e0 _ e1 e2 v _

theorem set5B_eq (x : D8) (n : N8 (N8 (N8 (N8 (N8 (Option Blk)))))) (e0 e1 e2 e3 : D8) (v : Option Blk) (k : N8 (N8 (N8 (N8 (N8 (Option Blk))))) → Out) : set5B x n e0 e1 e2 e3 v k = k (n.set x (set4 e0 e1 e2 e3 v (n.get x))) := by
  obtain ⟨c0, c1, c2, c3, c4, c5, c6, c7⟩ := n
  cases x <;> exact set4B_eq e0 _ e1 e2 e3 v _

theorem set6B_eq (x : D8) (n : N8 (N8 (N8 (N8 (N8 (N8 (Option Blk))))))) (e0 e1 e2 e3 e4 : D8) (v : Option Blk) (k : N8 (N8 (N8 (N8 (N8 (N8 (Option Blk)))))) → Out) : set6B x n e0 e1 e2 e3 e4 v k = k (set6 x e0 e1 e2 e3 e4 v n) := by
  obtain ⟨c0, c1, c2, c3, c4, c5, c6, c7⟩ := n
  cases x <;> exact set5B_eq e0 _ e1 e2 e3 e4 v _

theorem setB_eq (p : Pos) (v : Option Blk) (t : T Blk) (k : T Blk → Out) : setB p v t k = k (T.set p v t) := by
  obtain ⟨a, b, c, s⟩ := t
  cases p with
  | a x y => exact set2B_eq x a y v _
  | b x y z w => exact set4B_eq x b y z w v _
  | c x y z w u r => exact set6B_eq x c y z w u r v _
  | s q => rfl

noncomputable def set1R (x : D8) : N8 (Option Blk) → Option Blk → (N8 (Option Blk) → Res) → Res :=
  D8.rec (motive := fun _ => N8 (Option Blk) → Option Blk → (N8 (Option Blk) → Res) → Res)
    (fun n v k => N8.rec (motive := fun _ => Option Blk → (N8 (Option Blk) → Res) → Res) (fun _ c1 c2 c3 c4 c5 c6 c7 v k => k ⟨v, c1, c2, c3, c4, c5, c6, c7⟩) n  v k)
    (fun n v k => N8.rec (motive := fun _ => Option Blk → (N8 (Option Blk) → Res) → Res) (fun c0 _ c2 c3 c4 c5 c6 c7 v k => k ⟨c0, v, c2, c3, c4, c5, c6, c7⟩) n  v k)
    (fun n v k => N8.rec (motive := fun _ => Option Blk → (N8 (Option Blk) → Res) → Res) (fun c0 c1 _ c3 c4 c5 c6 c7 v k => k ⟨c0, c1, v, c3, c4, c5, c6, c7⟩) n  v k)
    (fun n v k => N8.rec (motive := fun _ => Option Blk → (N8 (Option Blk) → Res) → Res) (fun c0 c1 c2 _ c4 c5 c6 c7 v k => k ⟨c0, c1, c2, v, c4, c5, c6, c7⟩) n  v k)
    (fun n v k => N8.rec (motive := fun _ => Option Blk → (N8 (Option Blk) → Res) → Res) (fun c0 c1 c2 c3 _ c5 c6 c7 v k => k ⟨c0, c1, c2, c3, v, c5, c6, c7⟩) n  v k)
    (fun n v k => N8.rec (motive := fun _ => Option Blk → (N8 (Option Blk) → Res) → Res) (fun c0 c1 c2 c3 c4 _ c6 c7 v k => k ⟨c0, c1, c2, c3, c4, v, c6, c7⟩) n  v k)
    (fun n v k => N8.rec (motive := fun _ => Option Blk → (N8 (Option Blk) → Res) → Res) (fun c0 c1 c2 c3 c4 c5 _ c7 v k => k ⟨c0, c1, c2, c3, c4, c5, v, c7⟩) n  v k)
    (fun n v k => N8.rec (motive := fun _ => Option Blk → (N8 (Option Blk) → Res) → Res) (fun c0 c1 c2 c3 c4 c5 c6 _ v k => k ⟨c0, c1, c2, c3, c4, c5, c6, v⟩) n  v k) x

noncomputable def set2R (x : D8) : N8 (N8 (Option Blk)) → D8 → Option Blk → (N8 (N8 (Option Blk)) → Res) → Res :=
  D8.rec (motive := fun _ => N8 (N8 (Option Blk)) → D8 → Option Blk → (N8 (N8 (Option Blk)) → Res) → Res)
    (fun n e0 v k => N8.rec (motive := fun _ => D8 → Option Blk → (N8 (N8 (Option Blk)) → Res) → Res) (fun c0 c1 c2 c3 c4 c5 c6 c7 e0 v k => set1R e0 c0  v fun y => k ⟨y, c1, c2, c3, c4, c5, c6, c7⟩) n e0 v k)
    (fun n e0 v k => N8.rec (motive := fun _ => D8 → Option Blk → (N8 (N8 (Option Blk)) → Res) → Res) (fun c0 c1 c2 c3 c4 c5 c6 c7 e0 v k => set1R e0 c1  v fun y => k ⟨c0, y, c2, c3, c4, c5, c6, c7⟩) n e0 v k)
    (fun n e0 v k => N8.rec (motive := fun _ => D8 → Option Blk → (N8 (N8 (Option Blk)) → Res) → Res) (fun c0 c1 c2 c3 c4 c5 c6 c7 e0 v k => set1R e0 c2  v fun y => k ⟨c0, c1, y, c3, c4, c5, c6, c7⟩) n e0 v k)
    (fun n e0 v k => N8.rec (motive := fun _ => D8 → Option Blk → (N8 (N8 (Option Blk)) → Res) → Res) (fun c0 c1 c2 c3 c4 c5 c6 c7 e0 v k => set1R e0 c3  v fun y => k ⟨c0, c1, c2, y, c4, c5, c6, c7⟩) n e0 v k)
    (fun n e0 v k => N8.rec (motive := fun _ => D8 → Option Blk → (N8 (N8 (Option Blk)) → Res) → Res) (fun c0 c1 c2 c3 c4 c5 c6 c7 e0 v k => set1R e0 c4  v fun y => k ⟨c0, c1, c2, c3, y, c5, c6, c7⟩) n e0 v k)
    (fun n e0 v k => N8.rec (motive := fun _ => D8 → Option Blk → (N8 (N8 (Option Blk)) → Res) → Res) (fun c0 c1 c2 c3 c4 c5 c6 c7 e0 v k => set1R e0 c5  v fun y => k ⟨c0, c1, c2, c3, c4, y, c6, c7⟩) n e0 v k)
    (fun n e0 v k => N8.rec (motive := fun _ => D8 → Option Blk → (N8 (N8 (Option Blk)) → Res) → Res) (fun c0 c1 c2 c3 c4 c5 c6 c7 e0 v k => set1R e0 c6  v fun y => k ⟨c0, c1, c2, c3, c4, c5, y, c7⟩) n e0 v k)
    (fun n e0 v k => N8.rec (motive := fun _ => D8 → Option Blk → (N8 (N8 (Option Blk)) → Res) → Res) (fun c0 c1 c2 c3 c4 c5 c6 c7 e0 v k => set1R e0 c7  v fun y => k ⟨c0, c1, c2, c3, c4, c5, c6, y⟩) n e0 v k) x

noncomputable def set3R (x : D8) : N8 (N8 (N8 (Option Blk))) → D8 → D8 → Option Blk → (N8 (N8 (N8 (Option Blk))) → Res) → Res :=
  D8.rec (motive := fun _ => N8 (N8 (N8 (Option Blk))) → D8 → D8 → Option Blk → (N8 (N8 (N8 (Option Blk))) → Res) → Res)
    (fun n e0 e1 v k => N8.rec (motive := fun _ => D8 → D8 → Option Blk → (N8 (N8 (N8 (Option Blk))) → Res) → Res) (fun c0 c1 c2 c3 c4 c5 c6 c7 e0 e1 v k => set2R e0 c0 e1 v fun y => k ⟨y, c1, c2, c3, c4, c5, c6, c7⟩) n e0 e1 v k)
    (fun n e0 e1 v k => N8.rec (motive := fun _ => D8 → D8 → Option Blk → (N8 (N8 (N8 (Option Blk))) → Res) → Res) (fun c0 c1 c2 c3 c4 c5 c6 c7 e0 e1 v k => set2R e0 c1 e1 v fun y => k ⟨c0, y, c2, c3, c4, c5, c6, c7⟩) n e0 e1 v k)
    (fun n e0 e1 v k => N8.rec (motive := fun _ => D8 → D8 → Option Blk → (N8 (N8 (N8 (Option Blk))) → Res) → Res) (fun c0 c1 c2 c3 c4 c5 c6 c7 e0 e1 v k => set2R e0 c2 e1 v fun y => k ⟨c0, c1, y, c3, c4, c5, c6, c7⟩) n e0 e1 v k)
    (fun n e0 e1 v k => N8.rec (motive := fun _ => D8 → D8 → Option Blk → (N8 (N8 (N8 (Option Blk))) → Res) → Res) (fun c0 c1 c2 c3 c4 c5 c6 c7 e0 e1 v k => set2R e0 c3 e1 v fun y => k ⟨c0, c1, c2, y, c4, c5, c6, c7⟩) n e0 e1 v k)
    (fun n e0 e1 v k => N8.rec (motive := fun _ => D8 → D8 → Option Blk → (N8 (N8 (N8 (Option Blk))) → Res) → Res) (fun c0 c1 c2 c3 c4 c5 c6 c7 e0 e1 v k => set2R e0 c4 e1 v fun y => k ⟨c0, c1, c2, c3, y, c5, c6, c7⟩) n e0 e1 v k)
    (fun n e0 e1 v k => N8.rec (motive := fun _ => D8 → D8 → Option Blk → (N8 (N8 (N8 (Option Blk))) → Res) → Res) (fun c0 c1 c2 c3 c4 c5 c6 c7 e0 e1 v k => set2R e0 c5 e1 v fun y => k ⟨c0, c1, c2, c3, c4, y, c6, c7⟩) n e0 e1 v k)
    (fun n e0 e1 v k => N8.rec (motive := fun _ => D8 → D8 → Option Blk → (N8 (N8 (N8 (Option Blk))) → Res) → Res) (fun c0 c1 c2 c3 c4 c5 c6 c7 e0 e1 v k => set2R e0 c6 e1 v fun y => k ⟨c0, c1, c2, c3, c4, c5, y, c7⟩) n e0 e1 v k)
    (fun n e0 e1 v k => N8.rec (motive := fun _ => D8 → D8 → Option Blk → (N8 (N8 (N8 (Option Blk))) → Res) → Res) (fun c0 c1 c2 c3 c4 c5 c6 c7 e0 e1 v k => set2R e0 c7 e1 v fun y => k ⟨c0, c1, c2, c3, c4, c5, c6, y⟩) n e0 e1 v k) x

noncomputable def set4R (x : D8) : N8 (N8 (N8 (N8 (Option Blk)))) → D8 → D8 → D8 → Option Blk → (N8 (N8 (N8 (N8 (Option Blk)))) → Res) → Res :=
  D8.rec (motive := fun _ => N8 (N8 (N8 (N8 (Option Blk)))) → D8 → D8 → D8 → Option Blk → (N8 (N8 (N8 (N8 (Option Blk)))) → Res) → Res)
    (fun n e0 e1 e2 v k => N8.rec (motive := fun _ => D8 → D8 → D8 → Option Blk → (N8 (N8 (N8 (N8 (Option Blk)))) → Res) → Res) (fun c0 c1 c2 c3 c4 c5 c6 c7 e0 e1 e2 v k => set3R e0 c0 e1 e2 v fun y => k ⟨y, c1, c2, c3, c4, c5, c6, c7⟩) n e0 e1 e2 v k)
    (fun n e0 e1 e2 v k => N8.rec (motive := fun _ => D8 → D8 → D8 → Option Blk → (N8 (N8 (N8 (N8 (Option Blk)))) → Res) → Res) (fun c0 c1 c2 c3 c4 c5 c6 c7 e0 e1 e2 v k => set3R e0 c1 e1 e2 v fun y => k ⟨c0, y, c2, c3, c4, c5, c6, c7⟩) n e0 e1 e2 v k)
    (fun n e0 e1 e2 v k => N8.rec (motive := fun _ => D8 → D8 → D8 → Option Blk → (N8 (N8 (N8 (N8 (Option Blk)))) → Res) → Res) (fun c0 c1 c2 c3 c4 c5 c6 c7 e0 e1 e2 v k => set3R e0 c2 e1 e2 v fun y => k ⟨c0, c1, y, c3, c4, c5, c6, c7⟩) n e0 e1 e2 v k)
    (fun n e0 e1 e2 v k => N8.rec (motive := fun _ => D8 → D8 → D8 → Option Blk → (N8 (N8 (N8 (N8 (Option Blk)))) → Res) → Res) (fun c0 c1 c2 c3 c4 c5 c6 c7 e0 e1 e2 v k => set3R e0 c3 e1 e2 v fun y => k ⟨c0, c1, c2, y, c4, c5, c6, c7⟩) n e0 e1 e2 v k)
    (fun n e0 e1 e2 v k => N8.rec (motive := fun _ => D8 → D8 → D8 → Option Blk → (N8 (N8 (N8 (N8 (Option Blk)))) → Res) → Res) (fun c0 c1 c2 c3 c4 c5 c6 c7 e0 e1 e2 v k => set3R e0 c4 e1 e2 v fun y => k ⟨c0, c1, c2, c3, y, c5, c6, c7⟩) n e0 e1 e2 v k)
    (fun n e0 e1 e2 v k => N8.rec (motive := fun _ => D8 → D8 → D8 → Option Blk → (N8 (N8 (N8 (N8 (Option Blk)))) → Res) → Res) (fun c0 c1 c2 c3 c4 c5 c6 c7 e0 e1 e2 v k => set3R e0 c5 e1 e2 v fun y => k ⟨c0, c1, c2, c3, c4, y, c6, c7⟩) n e0 e1 e2 v k)
    (fun n e0 e1 e2 v k => N8.rec (motive := fun _ => D8 → D8 → D8 → Option Blk → (N8 (N8 (N8 (N8 (Option Blk)))) → Res) → Res) (fun c0 c1 c2 c3 c4 c5 c6 c7 e0 e1 e2 v k => set3R e0 c6 e1 e2 v fun y => k ⟨c0, c1, c2, c3, c4, c5, y, c7⟩) n e0 e1 e2 v k)
    (fun n e0 e1 e2 v k => N8.rec (motive := fun _ => D8 → D8 → D8 → Option Blk → (N8 (N8 (N8 (N8 (Option Blk)))) → Res) → Res) (fun c0 c1 c2 c3 c4 c5 c6 c7 e0 e1 e2 v k => set3R e0 c7 e1 e2 v fun y => k ⟨c0, c1, c2, c3, c4, c5, c6, y⟩) n e0 e1 e2 v k) x

noncomputable def set5R (x : D8) : N8 (N8 (N8 (N8 (N8 (Option Blk))))) → D8 → D8 → D8 → D8 → Option Blk → (N8 (N8 (N8 (N8 (N8 (Option Blk))))) → Res) → Res :=
  D8.rec (motive := fun _ => N8 (N8 (N8 (N8 (N8 (Option Blk))))) → D8 → D8 → D8 → D8 → Option Blk → (N8 (N8 (N8 (N8 (N8 (Option Blk))))) → Res) → Res)
    (fun n e0 e1 e2 e3 v k => N8.rec (motive := fun _ => D8 → D8 → D8 → D8 → Option Blk → (N8 (N8 (N8 (N8 (N8 (Option Blk))))) → Res) → Res) (fun c0 c1 c2 c3 c4 c5 c6 c7 e0 e1 e2 e3 v k => set4R e0 c0 e1 e2 e3 v fun y => k ⟨y, c1, c2, c3, c4, c5, c6, c7⟩) n e0 e1 e2 e3 v k)
    (fun n e0 e1 e2 e3 v k => N8.rec (motive := fun _ => D8 → D8 → D8 → D8 → Option Blk → (N8 (N8 (N8 (N8 (N8 (Option Blk))))) → Res) → Res) (fun c0 c1 c2 c3 c4 c5 c6 c7 e0 e1 e2 e3 v k => set4R e0 c1 e1 e2 e3 v fun y => k ⟨c0, y, c2, c3, c4, c5, c6, c7⟩) n e0 e1 e2 e3 v k)
    (fun n e0 e1 e2 e3 v k => N8.rec (motive := fun _ => D8 → D8 → D8 → D8 → Option Blk → (N8 (N8 (N8 (N8 (N8 (Option Blk))))) → Res) → Res) (fun c0 c1 c2 c3 c4 c5 c6 c7 e0 e1 e2 e3 v k => set4R e0 c2 e1 e2 e3 v fun y => k ⟨c0, c1, y, c3, c4, c5, c6, c7⟩) n e0 e1 e2 e3 v k)
    (fun n e0 e1 e2 e3 v k => N8.rec (motive := fun _ => D8 → D8 → D8 → D8 → Option Blk → (N8 (N8 (N8 (N8 (N8 (Option Blk))))) → Res) → Res) (fun c0 c1 c2 c3 c4 c5 c6 c7 e0 e1 e2 e3 v k => set4R e0 c3 e1 e2 e3 v fun y => k ⟨c0, c1, c2, y, c4, c5, c6, c7⟩) n e0 e1 e2 e3 v k)
    (fun n e0 e1 e2 e3 v k => N8.rec (motive := fun _ => D8 → D8 → D8 → D8 → Option Blk → (N8 (N8 (N8 (N8 (N8 (Option Blk))))) → Res) → Res) (fun c0 c1 c2 c3 c4 c5 c6 c7 e0 e1 e2 e3 v k => set4R e0 c4 e1 e2 e3 v fun y => k ⟨c0, c1, c2, c3, y, c5, c6, c7⟩) n e0 e1 e2 e3 v k)
    (fun n e0 e1 e2 e3 v k => N8.rec (motive := fun _ => D8 → D8 → D8 → D8 → Option Blk → (N8 (N8 (N8 (N8 (N8 (Option Blk))))) → Res) → Res) (fun c0 c1 c2 c3 c4 c5 c6 c7 e0 e1 e2 e3 v k => set4R e0 c5 e1 e2 e3 v fun y => k ⟨c0, c1, c2, c3, c4, y, c6, c7⟩) n e0 e1 e2 e3 v k)
    (fun n e0 e1 e2 e3 v k => N8.rec (motive := fun _ => D8 → D8 → D8 → D8 → Option Blk → (N8 (N8 (N8 (N8 (N8 (Option Blk))))) → Res) → Res) (fun c0 c1 c2 c3 c4 c5 c6 c7 e0 e1 e2 e3 v k => set4R e0 c6 e1 e2 e3 v fun y => k ⟨c0, c1, c2, c3, c4, c5, y, c7⟩) n e0 e1 e2 e3 v k)
    (fun n e0 e1 e2 e3 v k => N8.rec (motive := fun _ => D8 → D8 → D8 → D8 → Option Blk → (N8 (N8 (N8 (N8 (N8 (Option Blk))))) → Res) → Res) (fun c0 c1 c2 c3 c4 c5 c6 c7 e0 e1 e2 e3 v k => set4R e0 c7 e1 e2 e3 v fun y => k ⟨c0, c1, c2, c3, c4, c5, c6, y⟩) n e0 e1 e2 e3 v k) x

noncomputable def set6R (x : D8) : N8 (N8 (N8 (N8 (N8 (N8 (Option Blk)))))) → D8 → D8 → D8 → D8 → D8 → Option Blk → (N8 (N8 (N8 (N8 (N8 (N8 (Option Blk)))))) → Res) → Res :=
  D8.rec (motive := fun _ => N8 (N8 (N8 (N8 (N8 (N8 (Option Blk)))))) → D8 → D8 → D8 → D8 → D8 → Option Blk → (N8 (N8 (N8 (N8 (N8 (N8 (Option Blk)))))) → Res) → Res)
    (fun n e0 e1 e2 e3 e4 v k => N8.rec (motive := fun _ => D8 → D8 → D8 → D8 → D8 → Option Blk → (N8 (N8 (N8 (N8 (N8 (N8 (Option Blk)))))) → Res) → Res) (fun c0 c1 c2 c3 c4 c5 c6 c7 e0 e1 e2 e3 e4 v k => set5R e0 c0 e1 e2 e3 e4 v fun y => k ⟨y, c1, c2, c3, c4, c5, c6, c7⟩) n e0 e1 e2 e3 e4 v k)
    (fun n e0 e1 e2 e3 e4 v k => N8.rec (motive := fun _ => D8 → D8 → D8 → D8 → D8 → Option Blk → (N8 (N8 (N8 (N8 (N8 (N8 (Option Blk)))))) → Res) → Res) (fun c0 c1 c2 c3 c4 c5 c6 c7 e0 e1 e2 e3 e4 v k => set5R e0 c1 e1 e2 e3 e4 v fun y => k ⟨c0, y, c2, c3, c4, c5, c6, c7⟩) n e0 e1 e2 e3 e4 v k)
    (fun n e0 e1 e2 e3 e4 v k => N8.rec (motive := fun _ => D8 → D8 → D8 → D8 → D8 → Option Blk → (N8 (N8 (N8 (N8 (N8 (N8 (Option Blk)))))) → Res) → Res) (fun c0 c1 c2 c3 c4 c5 c6 c7 e0 e1 e2 e3 e4 v k => set5R e0 c2 e1 e2 e3 e4 v fun y => k ⟨c0, c1, y, c3, c4, c5, c6, c7⟩) n e0 e1 e2 e3 e4 v k)
    (fun n e0 e1 e2 e3 e4 v k => N8.rec (motive := fun _ => D8 → D8 → D8 → D8 → D8 → Option Blk → (N8 (N8 (N8 (N8 (N8 (N8 (Option Blk)))))) → Res) → Res) (fun c0 c1 c2 c3 c4 c5 c6 c7 e0 e1 e2 e3 e4 v k => set5R e0 c3 e1 e2 e3 e4 v fun y => k ⟨c0, c1, c2, y, c4, c5, c6, c7⟩) n e0 e1 e2 e3 e4 v k)
    (fun n e0 e1 e2 e3 e4 v k => N8.rec (motive := fun _ => D8 → D8 → D8 → D8 → D8 → Option Blk → (N8 (N8 (N8 (N8 (N8 (N8 (Option Blk)))))) → Res) → Res) (fun c0 c1 c2 c3 c4 c5 c6 c7 e0 e1 e2 e3 e4 v k => set5R e0 c4 e1 e2 e3 e4 v fun y => k ⟨c0, c1, c2, c3, y, c5, c6, c7⟩) n e0 e1 e2 e3 e4 v k)
    (fun n e0 e1 e2 e3 e4 v k => N8.rec (motive := fun _ => D8 → D8 → D8 → D8 → D8 → Option Blk → (N8 (N8 (N8 (N8 (N8 (N8 (Option Blk)))))) → Res) → Res) (fun c0 c1 c2 c3 c4 c5 c6 c7 e0 e1 e2 e3 e4 v k => set5R e0 c5 e1 e2 e3 e4 v fun y => k ⟨c0, c1, c2, c3, c4, y, c6, c7⟩) n e0 e1 e2 e3 e4 v k)
    (fun n e0 e1 e2 e3 e4 v k => N8.rec (motive := fun _ => D8 → D8 → D8 → D8 → D8 → Option Blk → (N8 (N8 (N8 (N8 (N8 (N8 (Option Blk)))))) → Res) → Res) (fun c0 c1 c2 c3 c4 c5 c6 c7 e0 e1 e2 e3 e4 v k => set5R e0 c6 e1 e2 e3 e4 v fun y => k ⟨c0, c1, c2, c3, c4, c5, y, c7⟩) n e0 e1 e2 e3 e4 v k)
    (fun n e0 e1 e2 e3 e4 v k => N8.rec (motive := fun _ => D8 → D8 → D8 → D8 → D8 → Option Blk → (N8 (N8 (N8 (N8 (N8 (N8 (Option Blk)))))) → Res) → Res) (fun c0 c1 c2 c3 c4 c5 c6 c7 e0 e1 e2 e3 e4 v k => set5R e0 c7 e1 e2 e3 e4 v fun y => k ⟨c0, c1, c2, c3, c4, c5, c6, y⟩) n e0 e1 e2 e3 e4 v k) x

noncomputable def setR (x : Pos) : Option Blk → T Blk → (T Blk → Res) → Res :=
  Pos.rec (motive := fun _ => Option Blk → T Blk → (T Blk → Res) → Res)
    (fun x y v t k => T.rec (motive := fun _ => D8 → D8 → Option Blk → (T Blk → Res) → Res) (fun a b c s x y v k => set2R x a y v fun a => k ⟨a, b, c, s⟩) t x y v k)
    (fun x y z w v t k => T.rec (motive := fun _ => D8 → D8 → D8 → D8 → Option Blk → (T Blk → Res) → Res) (fun a b c s x y z w v k => set4R x b y z w v fun b => k ⟨a, b, c, s⟩) t x y z w v k)
    (fun x y z w u r v t k => T.rec (motive := fun _ => D8 → D8 → D8 → D8 → D8 → D8 → Option Blk → (T Blk → Res) → Res) (fun a b c s x y z w u r v k => set6R x c y z w u r v fun c => k ⟨a, b, c, s⟩) t x y z w u r v k)
    (fun q v t k => k ⟨t.a, t.b, t.c, t.s.set q v⟩) x

theorem set1R_eq (x : D8) (n : N8 (Option Blk)) (v : Option Blk) (k : N8 (Option Blk) → Res) : set1R x n  v k = k (n.set x v) := by
  obtain ⟨c0, c1, c2, c3, c4, c5, c6, c7⟩ := n
  cases x <;> rfl

theorem set2R_eq (x : D8) (n : N8 (N8 (Option Blk))) (e0 : D8) (v : Option Blk) (k : N8 (N8 (Option Blk)) → Res) : set2R x n e0 v k = k (set2 x e0 v n) := by
  obtain ⟨c0, c1, c2, c3, c4, c5, c6, c7⟩ := n
  cases x <;> exact set1R_eq e0 _  v _

theorem set3R_eq (x : D8) (n : N8 (N8 (N8 (Option Blk)))) (e0 e1 : D8) (v : Option Blk) (k : N8 (N8 (N8 (Option Blk))) → Res) : set3R x n e0 e1 v k = k (n.set x (set2 e0 e1 v (n.get x))) := by
  obtain ⟨c0, c1, c2, c3, c4, c5, c6, c7⟩ := n
  cases x <;> exact set2R_eq e0 _ e1 v _

theorem set4R_eq (x : D8) (n : N8 (N8 (N8 (N8 (Option Blk))))) (e0 e1 e2 : D8) (v : Option Blk) (k : N8 (N8 (N8 (N8 (Option Blk)))) → Res) : set4R x n e0 e1 e2 v k = k (set4 x e0 e1 e2 v n) := by
  obtain ⟨c0, c1, c2, c3, c4, c5, c6, c7⟩ := n
  cases x <;> exact set3R_eq e0 _ e1 e2 v _

theorem set5R_eq (x : D8) (n : N8 (N8 (N8 (N8 (N8 (Option Blk)))))) (e0 e1 e2 e3 : D8) (v : Option Blk) (k : N8 (N8 (N8 (N8 (N8 (Option Blk))))) → Res) : set5R x n e0 e1 e2 e3 v k = k (n.set x (set4 e0 e1 e2 e3 v (n.get x))) := by
  obtain ⟨c0, c1, c2, c3, c4, c5, c6, c7⟩ := n
  cases x <;> exact set4R_eq e0 _ e1 e2 e3 v _

theorem set6R_eq (x : D8) (n : N8 (N8 (N8 (N8 (N8 (N8 (Option Blk))))))) (e0 e1 e2 e3 e4 : D8) (v : Option Blk) (k : N8 (N8 (N8 (N8 (N8 (N8 (Option Blk)))))) → Res) : set6R x n e0 e1 e2 e3 e4 v k = k (set6 x e0 e1 e2 e3 e4 v n) := by
  obtain ⟨c0, c1, c2, c3, c4, c5, c6, c7⟩ := n
  cases x <;> exact set5R_eq e0 _ e1 e2 e3 e4 v _

theorem setR_eq (p : Pos) (v : Option Blk) (t : T Blk) (k : T Blk → Res) : setR p v t k = k (T.set p v t) := by
  obtain ⟨a, b, c, s⟩ := t
  cases p with
  | a x y => exact set2R_eq x a y v _
  | b x y z w => exact set4R_eq x b y z w v _
  | c x y z w u r => exact set6R_eq x c y z w u r v _
  | s q => rfl

noncomputable def unO (x : Option AV) : AV :=
  Option.rec (motive := fun _ => AV)
    (AV.undef)
    (fun v => v) x

noncomputable def evM (x : Opd) : T AV → AV :=
  Opd.rec (motive := fun _ => T AV → AV)
    (fun p env => unO (getV p env))
    (fun v _ => v) x

noncomputable def evE (env : T AV) (x : Opd) : AV := evM x env

theorem unO_get (env : T AV) (p : Pos) : unO (getV p env) = ev env (.tmp p) := by
  rw [getV_eq]
  show unO _ = (match T.get p env with | some v => v | none => .undef)
  cases T.get p env <;> rfl

theorem evM_eq (x : Opd) (env : T AV) : evM x env = ev env x := by
  cases x with
  | tmp p => exact unO_get env p
  | val v => rfl

theorem evE_eq (env : T AV) : evE env = ev env := funext fun x => evM_eq x env

end Go.Proofs.YtialpccieggaoaaGreatDoor.Am
