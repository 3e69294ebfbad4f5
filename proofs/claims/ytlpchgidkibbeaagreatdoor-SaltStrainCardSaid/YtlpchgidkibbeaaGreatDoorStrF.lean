/- SaltStrain: the law's runs and their sketches, where the history is empty. Conditions: none. (Printed by gen_slw.py.) SaltStrain: the law's runs and their sketches, where the history is right, without cycles. Conditions: none. (Printed by gen_slw.py.) SaltStrain: the law's runs and their sketches, where the history is right, with cycles. Conditions: none. (Printed by gen_slw.py.) SaltStrain: the law's runs and their sketches, where the history is wrong. Conditions: none. (Printed by gen_slw.py.) -/
import Derived.Test.YtlpchgidkibbeaaGreatDoorStrE
namespace Go.Ev
open Go Go.Proofs
set_option maxRecDepth 100000
section
variable (g : Gs) (n m q x y v p : Nat) (z z1 z2 w1 w2 : Nat → Int)
theorem ls_i_zzz : lsK .z .z (.z v) g 0 m q z z1 z2 w1 w2 = into (lsK .z .z (.z v) g 0 m q z z1 z2 w1 w2) (lsS g .z .z (.z v) 0 m q z z1 z2 w1 w2) := by kernel_rfl
theorem ls_f_zzz : fits (lsK .z .z (.z v) g 0 m q z z1 z2 w1 w2) (lsS g .z .z (.z v) 0 m q z z1 z2 w1 w2) = true := by kernel_rfl
theorem ls_i_zzo : lsK .z .z .ok g 0 m q z z1 z2 w1 w2 = into (lsK .z .z .ok g 0 m q z z1 z2 w1 w2) (lsS g .z .z .ok 0 m q z z1 z2 w1 w2) := by kernel_rfl
theorem ls_f_zzo : fits (lsK .z .z .ok g 0 m q z z1 z2 w1 w2) (lsS g .z .z .ok 0 m q z z1 z2 w1 w2) = true := by kernel_rfl
theorem ls_i_zzb : lsK .z .z (.bad v) g 0 m q z z1 z2 w1 w2 = into (lsK .z .z (.bad v) g 0 m q z z1 z2 w1 w2) (lsS g .z .z (.bad v) 0 m q z z1 z2 w1 w2) := by kernel_rfl
theorem ls_f_zzb : fits (lsK .z .z (.bad v) g 0 m q z z1 z2 w1 w2) (lsS g .z .z (.bad v) 0 m q z z1 z2 w1 w2) = true := by kernel_rfl
theorem ls_i_zoz : lsK .z .ok (.z v) g 0 m q z z1 z2 w1 w2 = into (lsK .z .ok (.z v) g 0 m q z z1 z2 w1 w2) (lsS g .z .ok (.z v) 0 m q z z1 z2 w1 w2) := by kernel_rfl
theorem ls_f_zoz : fits (lsK .z .ok (.z v) g 0 m q z z1 z2 w1 w2) (lsS g .z .ok (.z v) 0 m q z z1 z2 w1 w2) = true := by kernel_rfl
theorem ls_i_zoo : lsK .z .ok .ok g 0 m q z z1 z2 w1 w2 = into (lsK .z .ok .ok g 0 m q z z1 z2 w1 w2) (lsS g .z .ok .ok 0 m q z z1 z2 w1 w2) := by kernel_rfl
theorem ls_f_zoo : fits (lsK .z .ok .ok g 0 m q z z1 z2 w1 w2) (lsS g .z .ok .ok 0 m q z z1 z2 w1 w2) = true := by kernel_rfl
theorem ls_i_zob : lsK .z .ok (.bad v) g 0 m q z z1 z2 w1 w2 = into (lsK .z .ok (.bad v) g 0 m q z z1 z2 w1 w2) (lsS g .z .ok (.bad v) 0 m q z z1 z2 w1 w2) := by kernel_rfl
theorem ls_f_zob : fits (lsK .z .ok (.bad v) g 0 m q z z1 z2 w1 w2) (lsS g .z .ok (.bad v) 0 m q z z1 z2 w1 w2) = true := by kernel_rfl
theorem ls_i_zbz : lsK .z (.bad y) (.z v) g 0 m q z z1 z2 w1 w2 = into (lsK .z (.bad y) (.z v) g 0 m q z z1 z2 w1 w2) (lsS g .z (.bad y) (.z v) 0 m q z z1 z2 w1 w2) := by kernel_rfl
theorem ls_f_zbz : fits (lsK .z (.bad y) (.z v) g 0 m q z z1 z2 w1 w2) (lsS g .z (.bad y) (.z v) 0 m q z z1 z2 w1 w2) = true := by kernel_rfl
theorem ls_i_zbo : lsK .z (.bad y) .ok g 0 m q z z1 z2 w1 w2 = into (lsK .z (.bad y) .ok g 0 m q z z1 z2 w1 w2) (lsS g .z (.bad y) .ok 0 m q z z1 z2 w1 w2) := by kernel_rfl
theorem ls_f_zbo : fits (lsK .z (.bad y) .ok g 0 m q z z1 z2 w1 w2) (lsS g .z (.bad y) .ok 0 m q z z1 z2 w1 w2) = true := by kernel_rfl
theorem ls_i_zbb : lsK .z (.bad y) (.bad v) g 0 m q z z1 z2 w1 w2 = into (lsK .z (.bad y) (.bad v) g 0 m q z z1 z2 w1 w2) (lsS g .z (.bad y) (.bad v) 0 m q z z1 z2 w1 w2) := by kernel_rfl
theorem ls_f_zbb : fits (lsK .z (.bad y) (.bad v) g 0 m q z z1 z2 w1 w2) (lsS g .z (.bad y) (.bad v) 0 m q z z1 z2 w1 w2) = true := by kernel_rfl
end
end Go.Ev

namespace Go.Ev
open Go Go.Proofs
set_option maxRecDepth 100000
section
variable (g : Gs) (n m q x y v p : Nat) (z z1 z2 w1 w2 : Nat → Int)
theorem ls_i_ozz : lsK (.ok 0) .z (.z v) g n m q z z1 z2 w1 w2 = into (lsK (.ok 0) .z (.z v) g n m q z z1 z2 w1 w2) (lsS g (.ok 0) .z (.z v) n m q z z1 z2 w1 w2) := by kernel_rfl
theorem ls_f_ozz : fits (lsK (.ok 0) .z (.z v) g n m q z z1 z2 w1 w2) (lsS g (.ok 0) .z (.z v) n m q z z1 z2 w1 w2) = true := by kernel_rfl
theorem ls_i_ozo : lsK (.ok 0) .z .ok g n m q z z1 z2 w1 w2 = into (lsK (.ok 0) .z .ok g n m q z z1 z2 w1 w2) (lsS g (.ok 0) .z .ok n m q z z1 z2 w1 w2) := by kernel_rfl
theorem ls_f_ozo : fits (lsK (.ok 0) .z .ok g n m q z z1 z2 w1 w2) (lsS g (.ok 0) .z .ok n m q z z1 z2 w1 w2) = true := by kernel_rfl
theorem ls_i_ozb : lsK (.ok 0) .z (.bad v) g n m q z z1 z2 w1 w2 = into (lsK (.ok 0) .z (.bad v) g n m q z z1 z2 w1 w2) (lsS g (.ok 0) .z (.bad v) n m q z z1 z2 w1 w2) := by kernel_rfl
theorem ls_f_ozb : fits (lsK (.ok 0) .z (.bad v) g n m q z z1 z2 w1 w2) (lsS g (.ok 0) .z (.bad v) n m q z z1 z2 w1 w2) = true := by kernel_rfl
theorem ls_i_ooz : lsK (.ok 0) .ok (.z v) g n m q z z1 z2 w1 w2 = into (lsK (.ok 0) .ok (.z v) g n m q z z1 z2 w1 w2) (lsS g (.ok 0) .ok (.z v) n m q z z1 z2 w1 w2) := by kernel_rfl
theorem ls_f_ooz : fits (lsK (.ok 0) .ok (.z v) g n m q z z1 z2 w1 w2) (lsS g (.ok 0) .ok (.z v) n m q z z1 z2 w1 w2) = true := by kernel_rfl
theorem ls_i_ooo : lsK (.ok 0) .ok .ok g n m q z z1 z2 w1 w2 = into (lsK (.ok 0) .ok .ok g n m q z z1 z2 w1 w2) (lsS g (.ok 0) .ok .ok n m q z z1 z2 w1 w2) := by kernel_rfl
theorem ls_f_ooo : fits (lsK (.ok 0) .ok .ok g n m q z z1 z2 w1 w2) (lsS g (.ok 0) .ok .ok n m q z z1 z2 w1 w2) = true := by kernel_rfl
theorem ls_i_oob : lsK (.ok 0) .ok (.bad v) g n m q z z1 z2 w1 w2 = into (lsK (.ok 0) .ok (.bad v) g n m q z z1 z2 w1 w2) (lsS g (.ok 0) .ok (.bad v) n m q z z1 z2 w1 w2) := by kernel_rfl
theorem ls_f_oob : fits (lsK (.ok 0) .ok (.bad v) g n m q z z1 z2 w1 w2) (lsS g (.ok 0) .ok (.bad v) n m q z z1 z2 w1 w2) = true := by kernel_rfl
theorem ls_i_obz : lsK (.ok 0) (.bad y) (.z v) g n m q z z1 z2 w1 w2 = into (lsK (.ok 0) (.bad y) (.z v) g n m q z z1 z2 w1 w2) (lsS g (.ok 0) (.bad y) (.z v) n m q z z1 z2 w1 w2) := by kernel_rfl
theorem ls_f_obz : fits (lsK (.ok 0) (.bad y) (.z v) g n m q z z1 z2 w1 w2) (lsS g (.ok 0) (.bad y) (.z v) n m q z z1 z2 w1 w2) = true := by kernel_rfl
theorem ls_i_obo : lsK (.ok 0) (.bad y) .ok g n m q z z1 z2 w1 w2 = into (lsK (.ok 0) (.bad y) .ok g n m q z z1 z2 w1 w2) (lsS g (.ok 0) (.bad y) .ok n m q z z1 z2 w1 w2) := by kernel_rfl
theorem ls_f_obo : fits (lsK (.ok 0) (.bad y) .ok g n m q z z1 z2 w1 w2) (lsS g (.ok 0) (.bad y) .ok n m q z z1 z2 w1 w2) = true := by kernel_rfl
theorem ls_i_obb : lsK (.ok 0) (.bad y) (.bad v) g n m q z z1 z2 w1 w2 = into (lsK (.ok 0) (.bad y) (.bad v) g n m q z z1 z2 w1 w2) (lsS g (.ok 0) (.bad y) (.bad v) n m q z z1 z2 w1 w2) := by kernel_rfl
theorem ls_f_obb : fits (lsK (.ok 0) (.bad y) (.bad v) g n m q z z1 z2 w1 w2) (lsS g (.ok 0) (.bad y) (.bad v) n m q z z1 z2 w1 w2) = true := by kernel_rfl
end
end Go.Ev

namespace Go.Ev
open Go Go.Proofs
set_option maxRecDepth 100000
section
variable (g : Gs) (n m q x y v p : Nat) (z z1 z2 w1 w2 : Nat → Int)
theorem ls_i_pzz : lsK (.ok (p + 1)) .z (.z v) g n m q z z1 z2 w1 w2 = into (lsK (.ok (p + 1)) .z (.z v) g n m q z z1 z2 w1 w2) (lsS g (.ok (p + 1)) .z (.z v) n m q z z1 z2 w1 w2) := by kernel_rfl
theorem ls_f_pzz : fits (lsK (.ok (p + 1)) .z (.z v) g n m q z z1 z2 w1 w2) (lsS g (.ok (p + 1)) .z (.z v) n m q z z1 z2 w1 w2) = true := by kernel_rfl
theorem ls_i_pzo : lsK (.ok (p + 1)) .z .ok g n m q z z1 z2 w1 w2 = into (lsK (.ok (p + 1)) .z .ok g n m q z z1 z2 w1 w2) (lsS g (.ok (p + 1)) .z .ok n m q z z1 z2 w1 w2) := by kernel_rfl
theorem ls_f_pzo : fits (lsK (.ok (p + 1)) .z .ok g n m q z z1 z2 w1 w2) (lsS g (.ok (p + 1)) .z .ok n m q z z1 z2 w1 w2) = true := by kernel_rfl
theorem ls_i_pzb : lsK (.ok (p + 1)) .z (.bad v) g n m q z z1 z2 w1 w2 = into (lsK (.ok (p + 1)) .z (.bad v) g n m q z z1 z2 w1 w2) (lsS g (.ok (p + 1)) .z (.bad v) n m q z z1 z2 w1 w2) := by kernel_rfl
theorem ls_f_pzb : fits (lsK (.ok (p + 1)) .z (.bad v) g n m q z z1 z2 w1 w2) (lsS g (.ok (p + 1)) .z (.bad v) n m q z z1 z2 w1 w2) = true := by kernel_rfl
theorem ls_i_poz : lsK (.ok (p + 1)) .ok (.z v) g n m q z z1 z2 w1 w2 = into (lsK (.ok (p + 1)) .ok (.z v) g n m q z z1 z2 w1 w2) (lsS g (.ok (p + 1)) .ok (.z v) n m q z z1 z2 w1 w2) := by kernel_rfl
theorem ls_f_poz : fits (lsK (.ok (p + 1)) .ok (.z v) g n m q z z1 z2 w1 w2) (lsS g (.ok (p + 1)) .ok (.z v) n m q z z1 z2 w1 w2) = true := by kernel_rfl
theorem ls_i_poo : lsK (.ok (p + 1)) .ok .ok g n m q z z1 z2 w1 w2 = into (lsK (.ok (p + 1)) .ok .ok g n m q z z1 z2 w1 w2) (lsS g (.ok (p + 1)) .ok .ok n m q z z1 z2 w1 w2) := by kernel_rfl
theorem ls_f_poo : fits (lsK (.ok (p + 1)) .ok .ok g n m q z z1 z2 w1 w2) (lsS g (.ok (p + 1)) .ok .ok n m q z z1 z2 w1 w2) = true := by kernel_rfl
theorem ls_i_pob : lsK (.ok (p + 1)) .ok (.bad v) g n m q z z1 z2 w1 w2 = into (lsK (.ok (p + 1)) .ok (.bad v) g n m q z z1 z2 w1 w2) (lsS g (.ok (p + 1)) .ok (.bad v) n m q z z1 z2 w1 w2) := by kernel_rfl
theorem ls_f_pob : fits (lsK (.ok (p + 1)) .ok (.bad v) g n m q z z1 z2 w1 w2) (lsS g (.ok (p + 1)) .ok (.bad v) n m q z z1 z2 w1 w2) = true := by kernel_rfl
theorem ls_i_pbz : lsK (.ok (p + 1)) (.bad y) (.z v) g n m q z z1 z2 w1 w2 = into (lsK (.ok (p + 1)) (.bad y) (.z v) g n m q z z1 z2 w1 w2) (lsS g (.ok (p + 1)) (.bad y) (.z v) n m q z z1 z2 w1 w2) := by kernel_rfl
theorem ls_f_pbz : fits (lsK (.ok (p + 1)) (.bad y) (.z v) g n m q z z1 z2 w1 w2) (lsS g (.ok (p + 1)) (.bad y) (.z v) n m q z z1 z2 w1 w2) = true := by kernel_rfl
theorem ls_i_pbo : lsK (.ok (p + 1)) (.bad y) .ok g n m q z z1 z2 w1 w2 = into (lsK (.ok (p + 1)) (.bad y) .ok g n m q z z1 z2 w1 w2) (lsS g (.ok (p + 1)) (.bad y) .ok n m q z z1 z2 w1 w2) := by kernel_rfl
theorem ls_f_pbo : fits (lsK (.ok (p + 1)) (.bad y) .ok g n m q z z1 z2 w1 w2) (lsS g (.ok (p + 1)) (.bad y) .ok n m q z z1 z2 w1 w2) = true := by kernel_rfl
theorem ls_i_pbb : lsK (.ok (p + 1)) (.bad y) (.bad v) g n m q z z1 z2 w1 w2 = into (lsK (.ok (p + 1)) (.bad y) (.bad v) g n m q z z1 z2 w1 w2) (lsS g (.ok (p + 1)) (.bad y) (.bad v) n m q z z1 z2 w1 w2) := by kernel_rfl
theorem ls_f_pbb : fits (lsK (.ok (p + 1)) (.bad y) (.bad v) g n m q z z1 z2 w1 w2) (lsS g (.ok (p + 1)) (.bad y) (.bad v) n m q z z1 z2 w1 w2) = true := by kernel_rfl
end
end Go.Ev

namespace Go.Ev
open Go Go.Proofs
set_option maxRecDepth 100000
section
variable (g : Gs) (n m q x y v p : Nat) (z z1 z2 w1 w2 : Nat → Int)
theorem ls_i_bzz : lsK (.bad x) .z (.z v) g n m q z z1 z2 w1 w2 = into (lsK (.bad x) .z (.z v) g n m q z z1 z2 w1 w2) (lsS g (.bad x) .z (.z v) n m q z z1 z2 w1 w2) := by kernel_rfl
theorem ls_f_bzz : fits (lsK (.bad x) .z (.z v) g n m q z z1 z2 w1 w2) (lsS g (.bad x) .z (.z v) n m q z z1 z2 w1 w2) = true := by kernel_rfl
theorem ls_i_bzo : lsK (.bad x) .z .ok g n m q z z1 z2 w1 w2 = into (lsK (.bad x) .z .ok g n m q z z1 z2 w1 w2) (lsS g (.bad x) .z .ok n m q z z1 z2 w1 w2) := by kernel_rfl
theorem ls_f_bzo : fits (lsK (.bad x) .z .ok g n m q z z1 z2 w1 w2) (lsS g (.bad x) .z .ok n m q z z1 z2 w1 w2) = true := by kernel_rfl
theorem ls_i_bzb : lsK (.bad x) .z (.bad v) g n m q z z1 z2 w1 w2 = into (lsK (.bad x) .z (.bad v) g n m q z z1 z2 w1 w2) (lsS g (.bad x) .z (.bad v) n m q z z1 z2 w1 w2) := by kernel_rfl
theorem ls_f_bzb : fits (lsK (.bad x) .z (.bad v) g n m q z z1 z2 w1 w2) (lsS g (.bad x) .z (.bad v) n m q z z1 z2 w1 w2) = true := by kernel_rfl
theorem ls_i_boz : lsK (.bad x) .ok (.z v) g n m q z z1 z2 w1 w2 = into (lsK (.bad x) .ok (.z v) g n m q z z1 z2 w1 w2) (lsS g (.bad x) .ok (.z v) n m q z z1 z2 w1 w2) := by kernel_rfl
theorem ls_f_boz : fits (lsK (.bad x) .ok (.z v) g n m q z z1 z2 w1 w2) (lsS g (.bad x) .ok (.z v) n m q z z1 z2 w1 w2) = true := by kernel_rfl
theorem ls_i_boo : lsK (.bad x) .ok .ok g n m q z z1 z2 w1 w2 = into (lsK (.bad x) .ok .ok g n m q z z1 z2 w1 w2) (lsS g (.bad x) .ok .ok n m q z z1 z2 w1 w2) := by kernel_rfl
theorem ls_f_boo : fits (lsK (.bad x) .ok .ok g n m q z z1 z2 w1 w2) (lsS g (.bad x) .ok .ok n m q z z1 z2 w1 w2) = true := by kernel_rfl
theorem ls_i_bob : lsK (.bad x) .ok (.bad v) g n m q z z1 z2 w1 w2 = into (lsK (.bad x) .ok (.bad v) g n m q z z1 z2 w1 w2) (lsS g (.bad x) .ok (.bad v) n m q z z1 z2 w1 w2) := by kernel_rfl
theorem ls_f_bob : fits (lsK (.bad x) .ok (.bad v) g n m q z z1 z2 w1 w2) (lsS g (.bad x) .ok (.bad v) n m q z z1 z2 w1 w2) = true := by kernel_rfl
theorem ls_i_bbz : lsK (.bad x) (.bad y) (.z v) g n m q z z1 z2 w1 w2 = into (lsK (.bad x) (.bad y) (.z v) g n m q z z1 z2 w1 w2) (lsS g (.bad x) (.bad y) (.z v) n m q z z1 z2 w1 w2) := by kernel_rfl
theorem ls_f_bbz : fits (lsK (.bad x) (.bad y) (.z v) g n m q z z1 z2 w1 w2) (lsS g (.bad x) (.bad y) (.z v) n m q z z1 z2 w1 w2) = true := by kernel_rfl
theorem ls_i_bbo : lsK (.bad x) (.bad y) .ok g n m q z z1 z2 w1 w2 = into (lsK (.bad x) (.bad y) .ok g n m q z z1 z2 w1 w2) (lsS g (.bad x) (.bad y) .ok n m q z z1 z2 w1 w2) := by kernel_rfl
theorem ls_f_bbo : fits (lsK (.bad x) (.bad y) .ok g n m q z z1 z2 w1 w2) (lsS g (.bad x) (.bad y) .ok n m q z z1 z2 w1 w2) = true := by kernel_rfl
theorem ls_i_bbb : lsK (.bad x) (.bad y) (.bad v) g n m q z z1 z2 w1 w2 = into (lsK (.bad x) (.bad y) (.bad v) g n m q z z1 z2 w1 w2) (lsS g (.bad x) (.bad y) (.bad v) n m q z z1 z2 w1 w2) := by kernel_rfl
theorem ls_f_bbb : fits (lsK (.bad x) (.bad y) (.bad v) g n m q z z1 z2 w1 w2) (lsS g (.bad x) (.bad y) (.bad v) n m q z z1 z2 w1 w2) = true := by kernel_rfl
end
end Go.Ev
