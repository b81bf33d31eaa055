/- Texts that the law's proof stands on: V28, V29, V59, V62. -/
import Derived.Test.YtahgddfnbjpfiaaB8
import Derived.Test.YtahgddfnbjpfiaaB9
import Derived.Test.YtahgddfnbjpfiaaRows
set_option linter.unusedVariables false
set_option maxRecDepth 100000
namespace Go.Proofs.Ytahgddfnbjpfiaa
open Go Go.RowKit Am

theorem env0 : EnvOk ⟨Try.prog, plainT, (fun _ => none), (fun _ => none), fun _ => none, 0⟩ := ⟨plain_ok, (fun _ _ h => by cases h), (fun _ _ h => by cases h), by kernel_rfl, (fun _ _ h => by cases h)⟩
def ga0 : FuncId → Option Fspec := fun _ => none
def de0 : FuncId → Option Pt := fun _ => none
theorem ok0_0 : EnvOk ⟨Try.prog, plainT, ga0, de0, fun _ => none, 0⟩ := env0
def de1 : FuncId → Option Pt := upd de0 57 (some (cmpT))
theorem ok0_1 : EnvOk ⟨Try.prog, plainT, ga0, de1, fun _ => none, 0⟩ := EnvOk.addT ok0_0 (cmpT_sound)
def ga1 : FuncId → Option Fspec := upd ga0 52 (some compareS)
theorem ok1_1 : EnvOk ⟨Try.prog, plainT, ga1, de1, fun _ => none, 0⟩ := EnvOk.add ok0_1 (by first | exact compareString_sound ok0_1 | exact compareString_sound ok0_1 rfl | exact compareString_sound ok0_1 rfl rfl | exact compareString_sound ok0_1 rfl rfl rfl | exact compareString_sound ok0_1 rfl rfl rfl rfl | exact compareString_sound ok0_1 rfl rfl rfl rfl rfl | exact compareString_sound ok0_1 rfl rfl rfl rfl rfl rfl | exact compareString_sound ok0_1 rfl rfl rfl rfl rfl rfl rfl | exact compareString_sound ok0_1 rfl rfl rfl rfl rfl rfl rfl rfl | exact compareString_sound ok0_1 rfl rfl rfl rfl rfl rfl rfl rfl rfl | exact compareString_sound ok0_1 rfl rfl rfl rfl rfl rfl rfl rfl rfl rfl | exact compareString_sound ok0_1 rfl rfl rfl rfl rfl rfl rfl rfl rfl rfl rfl | exact compareString_sound ok0_1 rfl rfl rfl rfl rfl rfl rfl rfl rfl rfl rfl rfl) (by kernel_rfl)
def ga2 : FuncId → Option Fspec := upd ga1 48 (some compareS)
theorem ok2_1 : EnvOk ⟨Try.prog, plainT, ga2, de1, fun _ => none, 0⟩ := EnvOk.add ok1_1 (by first | exact compare_sound ok1_1 | exact compare_sound ok1_1 rfl | exact compare_sound ok1_1 rfl rfl | exact compare_sound ok1_1 rfl rfl rfl | exact compare_sound ok1_1 rfl rfl rfl rfl | exact compare_sound ok1_1 rfl rfl rfl rfl rfl | exact compare_sound ok1_1 rfl rfl rfl rfl rfl rfl | exact compare_sound ok1_1 rfl rfl rfl rfl rfl rfl rfl | exact compare_sound ok1_1 rfl rfl rfl rfl rfl rfl rfl rfl | exact compare_sound ok1_1 rfl rfl rfl rfl rfl rfl rfl rfl rfl | exact compare_sound ok1_1 rfl rfl rfl rfl rfl rfl rfl rfl rfl rfl | exact compare_sound ok1_1 rfl rfl rfl rfl rfl rfl rfl rfl rfl rfl rfl | exact compare_sound ok1_1 rfl rfl rfl rfl rfl rfl rfl rfl rfl rfl rfl rfl) (by kernel_rfl)
def ga3 : FuncId → Option Fspec := upd ga2 46 (some (bsS encId))
theorem ok3_1 : EnvOk ⟨Try.prog, plainT, ga3, de1, fun _ => none, 0⟩ := EnvOk.add ok2_1 (by first | exact bsI_sound ok2_1 | exact bsI_sound ok2_1 rfl | exact bsI_sound ok2_1 rfl rfl | exact bsI_sound ok2_1 rfl rfl rfl | exact bsI_sound ok2_1 rfl rfl rfl rfl | exact bsI_sound ok2_1 rfl rfl rfl rfl rfl | exact bsI_sound ok2_1 rfl rfl rfl rfl rfl rfl | exact bsI_sound ok2_1 rfl rfl rfl rfl rfl rfl rfl | exact bsI_sound ok2_1 rfl rfl rfl rfl rfl rfl rfl rfl | exact bsI_sound ok2_1 rfl rfl rfl rfl rfl rfl rfl rfl rfl | exact bsI_sound ok2_1 rfl rfl rfl rfl rfl rfl rfl rfl rfl rfl | exact bsI_sound ok2_1 rfl rfl rfl rfl rfl rfl rfl rfl rfl rfl rfl | exact bsI_sound ok2_1 rfl rfl rfl rfl rfl rfl rfl rfl rfl rfl rfl rfl) (by kernel_rfl)
def ga4 : FuncId → Option Fspec := upd ga3 47 (some plac1S)
theorem ok4_1 : EnvOk ⟨Try.prog, plainT, ga4, de1, fun _ => none, 0⟩ := EnvOk.add ok3_1 (by first | exact plac1_sound ok3_1 | exact plac1_sound ok3_1 rfl | exact plac1_sound ok3_1 rfl rfl | exact plac1_sound ok3_1 rfl rfl rfl | exact plac1_sound ok3_1 rfl rfl rfl rfl | exact plac1_sound ok3_1 rfl rfl rfl rfl rfl | exact plac1_sound ok3_1 rfl rfl rfl rfl rfl rfl | exact plac1_sound ok3_1 rfl rfl rfl rfl rfl rfl rfl | exact plac1_sound ok3_1 rfl rfl rfl rfl rfl rfl rfl rfl | exact plac1_sound ok3_1 rfl rfl rfl rfl rfl rfl rfl rfl rfl | exact plac1_sound ok3_1 rfl rfl rfl rfl rfl rfl rfl rfl rfl rfl | exact plac1_sound ok3_1 rfl rfl rfl rfl rfl rfl rfl rfl rfl rfl rfl | exact plac1_sound ok3_1 rfl rfl rfl rfl rfl rfl rfl rfl rfl rfl rfl rfl) (by kernel_rfl)
def ga5 : FuncId → Option Fspec := upd ga4 42 (some placS)
theorem ok5_1 : EnvOk ⟨Try.prog, plainT, ga5, de1, fun _ => none, 0⟩ := EnvOk.add ok4_1 (by first | exact plac_sound ok4_1 | exact plac_sound ok4_1 rfl | exact plac_sound ok4_1 rfl rfl | exact plac_sound ok4_1 rfl rfl rfl | exact plac_sound ok4_1 rfl rfl rfl rfl | exact plac_sound ok4_1 rfl rfl rfl rfl rfl | exact plac_sound ok4_1 rfl rfl rfl rfl rfl rfl | exact plac_sound ok4_1 rfl rfl rfl rfl rfl rfl rfl | exact plac_sound ok4_1 rfl rfl rfl rfl rfl rfl rfl rfl | exact plac_sound ok4_1 rfl rfl rfl rfl rfl rfl rfl rfl rfl | exact plac_sound ok4_1 rfl rfl rfl rfl rfl rfl rfl rfl rfl rfl | exact plac_sound ok4_1 rfl rfl rfl rfl rfl rfl rfl rfl rfl rfl rfl | exact plac_sound ok4_1 rfl rfl rfl rfl rfl rfl rfl rfl rfl rfl rfl rfl) (by kernel_rfl)
def ga6 : FuncId → Option Fspec := upd ga5 34 (some contS)
theorem ok6_1 : EnvOk ⟨Try.prog, plainT, ga6, de1, fun _ => none, 0⟩ := EnvOk.add ok5_1 (by first | exact cont_sound ok5_1 | exact cont_sound ok5_1 rfl | exact cont_sound ok5_1 rfl rfl | exact cont_sound ok5_1 rfl rfl rfl | exact cont_sound ok5_1 rfl rfl rfl rfl | exact cont_sound ok5_1 rfl rfl rfl rfl rfl | exact cont_sound ok5_1 rfl rfl rfl rfl rfl rfl | exact cont_sound ok5_1 rfl rfl rfl rfl rfl rfl rfl | exact cont_sound ok5_1 rfl rfl rfl rfl rfl rfl rfl rfl | exact cont_sound ok5_1 rfl rfl rfl rfl rfl rfl rfl rfl rfl | exact cont_sound ok5_1 rfl rfl rfl rfl rfl rfl rfl rfl rfl rfl | exact cont_sound ok5_1 rfl rfl rfl rfl rfl rfl rfl rfl rfl rfl rfl | exact cont_sound ok5_1 rfl rfl rfl rfl rfl rfl rfl rfl rfl rfl rfl rfl) (by kernel_rfl)
def ga7 : FuncId → Option Fspec := upd ga6 25 (some uptoS)
theorem ok7_1 : EnvOk ⟨Try.prog, plainT, ga7, de1, fun _ => none, 0⟩ := EnvOk.add ok6_1 (by first | exact upto_sound ok6_1 | exact upto_sound ok6_1 rfl | exact upto_sound ok6_1 rfl rfl | exact upto_sound ok6_1 rfl rfl rfl | exact upto_sound ok6_1 rfl rfl rfl rfl | exact upto_sound ok6_1 rfl rfl rfl rfl rfl | exact upto_sound ok6_1 rfl rfl rfl rfl rfl rfl | exact upto_sound ok6_1 rfl rfl rfl rfl rfl rfl rfl | exact upto_sound ok6_1 rfl rfl rfl rfl rfl rfl rfl rfl | exact upto_sound ok6_1 rfl rfl rfl rfl rfl rfl rfl rfl rfl | exact upto_sound ok6_1 rfl rfl rfl rfl rfl rfl rfl rfl rfl rfl | exact upto_sound ok6_1 rfl rfl rfl rfl rfl rfl rfl rfl rfl rfl rfl | exact upto_sound ok6_1 rfl rfl rfl rfl rfl rfl rfl rfl rfl rfl rfl rfl) (by kernel_rfl)
def ga8 : FuncId → Option Fspec := upd ga7 15 (some hasS)
theorem ok8_1 : EnvOk ⟨Try.prog, plainT, ga8, de1, fun _ => none, 0⟩ := EnvOk.add ok7_1 (by first | exact has_sound ok7_1 | exact has_sound ok7_1 rfl | exact has_sound ok7_1 rfl rfl | exact has_sound ok7_1 rfl rfl rfl | exact has_sound ok7_1 rfl rfl rfl rfl | exact has_sound ok7_1 rfl rfl rfl rfl rfl | exact has_sound ok7_1 rfl rfl rfl rfl rfl rfl | exact has_sound ok7_1 rfl rfl rfl rfl rfl rfl rfl | exact has_sound ok7_1 rfl rfl rfl rfl rfl rfl rfl rfl | exact has_sound ok7_1 rfl rfl rfl rfl rfl rfl rfl rfl rfl | exact has_sound ok7_1 rfl rfl rfl rfl rfl rfl rfl rfl rfl rfl | exact has_sound ok7_1 rfl rfl rfl rfl rfl rfl rfl rfl rfl rfl rfl | exact has_sound ok7_1 rfl rfl rfl rfl rfl rfl rfl rfl rfl rfl rfl rfl) (by kernel_rfl)
def ga9 : FuncId → Option Fspec := upd ga8 27 (some authS)
theorem ok9_1 : EnvOk ⟨Try.prog, plainT, ga9, de1, fun _ => none, 0⟩ := EnvOk.add ok8_1 (by first | exact auth_sound ok8_1 | exact auth_sound ok8_1 rfl | exact auth_sound ok8_1 rfl rfl | exact auth_sound ok8_1 rfl rfl rfl | exact auth_sound ok8_1 rfl rfl rfl rfl | exact auth_sound ok8_1 rfl rfl rfl rfl rfl | exact auth_sound ok8_1 rfl rfl rfl rfl rfl rfl | exact auth_sound ok8_1 rfl rfl rfl rfl rfl rfl rfl | exact auth_sound ok8_1 rfl rfl rfl rfl rfl rfl rfl rfl | exact auth_sound ok8_1 rfl rfl rfl rfl rfl rfl rfl rfl rfl | exact auth_sound ok8_1 rfl rfl rfl rfl rfl rfl rfl rfl rfl rfl | exact auth_sound ok8_1 rfl rfl rfl rfl rfl rfl rfl rfl rfl rfl rfl | exact auth_sound ok8_1 rfl rfl rfl rfl rfl rfl rfl rfl rfl rfl rfl rfl) (by kernel_rfl)
def ga10 : FuncId → Option Fspec := upd ga9 28 (some chkS)
theorem ok10_1 : EnvOk ⟨Try.prog, plainT, ga10, de1, fun _ => none, 0⟩ := EnvOk.add ok9_1 (by first | exact chk_sound ok9_1 | exact chk_sound ok9_1 rfl | exact chk_sound ok9_1 rfl rfl | exact chk_sound ok9_1 rfl rfl rfl | exact chk_sound ok9_1 rfl rfl rfl rfl | exact chk_sound ok9_1 rfl rfl rfl rfl rfl | exact chk_sound ok9_1 rfl rfl rfl rfl rfl rfl | exact chk_sound ok9_1 rfl rfl rfl rfl rfl rfl rfl | exact chk_sound ok9_1 rfl rfl rfl rfl rfl rfl rfl rfl | exact chk_sound ok9_1 rfl rfl rfl rfl rfl rfl rfl rfl rfl | exact chk_sound ok9_1 rfl rfl rfl rfl rfl rfl rfl rfl rfl rfl | exact chk_sound ok9_1 rfl rfl rfl rfl rfl rfl rfl rfl rfl rfl rfl | exact chk_sound ok9_1 rfl rfl rfl rfl rfl rfl rfl rfl rfl rfl rfl rfl) (by kernel_rfl)
def ga11 : FuncId → Option Fspec := upd ga10 18 (some cmpES)
theorem ok11_1 : EnvOk ⟨Try.prog, plainT, ga11, de1, fun _ => none, 0⟩ := EnvOk.add ok10_1 (by first | exact rcmp_sound ok10_1 | exact rcmp_sound ok10_1 rfl | exact rcmp_sound ok10_1 rfl rfl | exact rcmp_sound ok10_1 rfl rfl rfl | exact rcmp_sound ok10_1 rfl rfl rfl rfl | exact rcmp_sound ok10_1 rfl rfl rfl rfl rfl | exact rcmp_sound ok10_1 rfl rfl rfl rfl rfl rfl | exact rcmp_sound ok10_1 rfl rfl rfl rfl rfl rfl rfl | exact rcmp_sound ok10_1 rfl rfl rfl rfl rfl rfl rfl rfl | exact rcmp_sound ok10_1 rfl rfl rfl rfl rfl rfl rfl rfl rfl | exact rcmp_sound ok10_1 rfl rfl rfl rfl rfl rfl rfl rfl rfl rfl | exact rcmp_sound ok10_1 rfl rfl rfl rfl rfl rfl rfl rfl rfl rfl rfl | exact rcmp_sound ok10_1 rfl rfl rfl rfl rfl rfl rfl rfl rfl rfl rfl rfl) (by kernel_rfl)
def ga12 : FuncId → Option Fspec := upd ga11 36 (some raddS)
theorem ok12_1 : EnvOk ⟨Try.prog, plainT, ga12, de1, fun _ => none, 0⟩ := EnvOk.add ok11_1 (by first | exact radd_sound ok11_1 | exact radd_sound ok11_1 rfl | exact radd_sound ok11_1 rfl rfl | exact radd_sound ok11_1 rfl rfl rfl | exact radd_sound ok11_1 rfl rfl rfl rfl | exact radd_sound ok11_1 rfl rfl rfl rfl rfl | exact radd_sound ok11_1 rfl rfl rfl rfl rfl rfl | exact radd_sound ok11_1 rfl rfl rfl rfl rfl rfl rfl | exact radd_sound ok11_1 rfl rfl rfl rfl rfl rfl rfl rfl | exact radd_sound ok11_1 rfl rfl rfl rfl rfl rfl rfl rfl rfl | exact radd_sound ok11_1 rfl rfl rfl rfl rfl rfl rfl rfl rfl rfl | exact radd_sound ok11_1 rfl rfl rfl rfl rfl rfl rfl rfl rfl rfl rfl | exact radd_sound ok11_1 rfl rfl rfl rfl rfl rfl rfl rfl rfl rfl rfl rfl) (by kernel_rfl)
def ga13 : FuncId → Option Fspec := upd ga12 24 (some rmaxS)
theorem ok13_1 : EnvOk ⟨Try.prog, plainT, ga13, de1, fun _ => none, 0⟩ := EnvOk.add ok12_1 (by first | exact rmax_sound ok12_1 | exact rmax_sound ok12_1 rfl | exact rmax_sound ok12_1 rfl rfl | exact rmax_sound ok12_1 rfl rfl rfl | exact rmax_sound ok12_1 rfl rfl rfl rfl | exact rmax_sound ok12_1 rfl rfl rfl rfl rfl | exact rmax_sound ok12_1 rfl rfl rfl rfl rfl rfl | exact rmax_sound ok12_1 rfl rfl rfl rfl rfl rfl rfl | exact rmax_sound ok12_1 rfl rfl rfl rfl rfl rfl rfl rfl | exact rmax_sound ok12_1 rfl rfl rfl rfl rfl rfl rfl rfl rfl | exact rmax_sound ok12_1 rfl rfl rfl rfl rfl rfl rfl rfl rfl rfl | exact rmax_sound ok12_1 rfl rfl rfl rfl rfl rfl rfl rfl rfl rfl rfl | exact rmax_sound ok12_1 rfl rfl rfl rfl rfl rfl rfl rfl rfl rfl rfl rfl) (by kernel_rfl)
def ga14 : FuncId → Option Fspec := upd ga13 65 (some normS)
theorem ok14_1 : EnvOk ⟨Try.prog, plainT, ga14, de1, fun _ => none, 0⟩ := EnvOk.add ok13_1 (by first | exact norm_sound ok13_1 | exact norm_sound ok13_1 rfl | exact norm_sound ok13_1 rfl rfl | exact norm_sound ok13_1 rfl rfl rfl | exact norm_sound ok13_1 rfl rfl rfl rfl | exact norm_sound ok13_1 rfl rfl rfl rfl rfl | exact norm_sound ok13_1 rfl rfl rfl rfl rfl rfl | exact norm_sound ok13_1 rfl rfl rfl rfl rfl rfl rfl | exact norm_sound ok13_1 rfl rfl rfl rfl rfl rfl rfl rfl | exact norm_sound ok13_1 rfl rfl rfl rfl rfl rfl rfl rfl rfl | exact norm_sound ok13_1 rfl rfl rfl rfl rfl rfl rfl rfl rfl rfl | exact norm_sound ok13_1 rfl rfl rfl rfl rfl rfl rfl rfl rfl rfl rfl | exact norm_sound ok13_1 rfl rfl rfl rfl rfl rfl rfl rfl rfl rfl rfl rfl) (by kernel_rfl)
def ga15 : FuncId → Option Fspec := upd ga14 73 (some atS)
theorem ok15_1 : EnvOk ⟨Try.prog, plainT, ga15, de1, fun _ => none, 0⟩ := EnvOk.add ok14_1 (by first | exact at_sound ok14_1 | exact at_sound ok14_1 rfl | exact at_sound ok14_1 rfl rfl | exact at_sound ok14_1 rfl rfl rfl | exact at_sound ok14_1 rfl rfl rfl rfl | exact at_sound ok14_1 rfl rfl rfl rfl rfl | exact at_sound ok14_1 rfl rfl rfl rfl rfl rfl | exact at_sound ok14_1 rfl rfl rfl rfl rfl rfl rfl | exact at_sound ok14_1 rfl rfl rfl rfl rfl rfl rfl rfl | exact at_sound ok14_1 rfl rfl rfl rfl rfl rfl rfl rfl rfl | exact at_sound ok14_1 rfl rfl rfl rfl rfl rfl rfl rfl rfl rfl | exact at_sound ok14_1 rfl rfl rfl rfl rfl rfl rfl rfl rfl rfl rfl | exact at_sound ok14_1 rfl rfl rfl rfl rfl rfl rfl rfl rfl rfl rfl rfl) (by kernel_rfl)
def ga16 : FuncId → Option Fspec := upd ga15 66 (some cmpS)
theorem ok16_1 : EnvOk ⟨Try.prog, plainT, ga16, de1, fun _ => none, 0⟩ := EnvOk.add ok15_1 (by first | exact cmp_sound ok15_1 | exact cmp_sound ok15_1 rfl | exact cmp_sound ok15_1 rfl rfl | exact cmp_sound ok15_1 rfl rfl rfl | exact cmp_sound ok15_1 rfl rfl rfl rfl | exact cmp_sound ok15_1 rfl rfl rfl rfl rfl | exact cmp_sound ok15_1 rfl rfl rfl rfl rfl rfl | exact cmp_sound ok15_1 rfl rfl rfl rfl rfl rfl rfl | exact cmp_sound ok15_1 rfl rfl rfl rfl rfl rfl rfl rfl | exact cmp_sound ok15_1 rfl rfl rfl rfl rfl rfl rfl rfl rfl | exact cmp_sound ok15_1 rfl rfl rfl rfl rfl rfl rfl rfl rfl rfl | exact cmp_sound ok15_1 rfl rfl rfl rfl rfl rfl rfl rfl rfl rfl rfl | exact cmp_sound ok15_1 rfl rfl rfl rfl rfl rfl rfl rfl rfl rfl rfl rfl) (by kernel_rfl)
def ga17 : FuncId → Option Fspec := upd ga16 69 (some add1S)
theorem ok17_1 : EnvOk ⟨Try.prog, plainT, ga17, de1, fun _ => none, 0⟩ := EnvOk.add ok16_1 (by first | exact add1_sound ok16_1 | exact add1_sound ok16_1 rfl | exact add1_sound ok16_1 rfl rfl | exact add1_sound ok16_1 rfl rfl rfl | exact add1_sound ok16_1 rfl rfl rfl rfl | exact add1_sound ok16_1 rfl rfl rfl rfl rfl | exact add1_sound ok16_1 rfl rfl rfl rfl rfl rfl | exact add1_sound ok16_1 rfl rfl rfl rfl rfl rfl rfl | exact add1_sound ok16_1 rfl rfl rfl rfl rfl rfl rfl rfl | exact add1_sound ok16_1 rfl rfl rfl rfl rfl rfl rfl rfl rfl | exact add1_sound ok16_1 rfl rfl rfl rfl rfl rfl rfl rfl rfl rfl | exact add1_sound ok16_1 rfl rfl rfl rfl rfl rfl rfl rfl rfl rfl rfl | exact add1_sound ok16_1 rfl rfl rfl rfl rfl rfl rfl rfl rfl rfl rfl rfl) (by kernel_rfl)
def ga18 : FuncId → Option Fspec := upd ga17 68 (some sub1S)
theorem ok18_1 : EnvOk ⟨Try.prog, plainT, ga18, de1, fun _ => none, 0⟩ := EnvOk.add ok17_1 (by first | exact sub1_sound ok17_1 | exact sub1_sound ok17_1 rfl | exact sub1_sound ok17_1 rfl rfl | exact sub1_sound ok17_1 rfl rfl rfl | exact sub1_sound ok17_1 rfl rfl rfl rfl | exact sub1_sound ok17_1 rfl rfl rfl rfl rfl | exact sub1_sound ok17_1 rfl rfl rfl rfl rfl rfl | exact sub1_sound ok17_1 rfl rfl rfl rfl rfl rfl rfl | exact sub1_sound ok17_1 rfl rfl rfl rfl rfl rfl rfl rfl | exact sub1_sound ok17_1 rfl rfl rfl rfl rfl rfl rfl rfl rfl | exact sub1_sound ok17_1 rfl rfl rfl rfl rfl rfl rfl rfl rfl rfl | exact sub1_sound ok17_1 rfl rfl rfl rfl rfl rfl rfl rfl rfl rfl rfl | exact sub1_sound ok17_1 rfl rfl rfl rfl rfl rfl rfl rfl rfl rfl rfl rfl) (by kernel_rfl)
def ga19 : FuncId → Option Fspec := upd ga18 72 (some mul1S)
theorem ok19_1 : EnvOk ⟨Try.prog, plainT, ga19, de1, fun _ => none, 0⟩ := EnvOk.add ok18_1 (by first | exact mul1_sound ok18_1 | exact mul1_sound ok18_1 rfl | exact mul1_sound ok18_1 rfl rfl | exact mul1_sound ok18_1 rfl rfl rfl | exact mul1_sound ok18_1 rfl rfl rfl rfl | exact mul1_sound ok18_1 rfl rfl rfl rfl rfl | exact mul1_sound ok18_1 rfl rfl rfl rfl rfl rfl | exact mul1_sound ok18_1 rfl rfl rfl rfl rfl rfl rfl | exact mul1_sound ok18_1 rfl rfl rfl rfl rfl rfl rfl rfl | exact mul1_sound ok18_1 rfl rfl rfl rfl rfl rfl rfl rfl rfl | exact mul1_sound ok18_1 rfl rfl rfl rfl rfl rfl rfl rfl rfl rfl | exact mul1_sound ok18_1 rfl rfl rfl rfl rfl rfl rfl rfl rfl rfl rfl | exact mul1_sound ok18_1 rfl rfl rfl rfl rfl rfl rfl rfl rfl rfl rfl rfl) (by kernel_rfl)
def ga20 : FuncId → Option Fspec := upd ga19 67 (some smallS)
theorem ok20_1 : EnvOk ⟨Try.prog, plainT, ga20, de1, fun _ => none, 0⟩ := EnvOk.add ok19_1 (by first | exact small_sound ok19_1 | exact small_sound ok19_1 rfl | exact small_sound ok19_1 rfl rfl | exact small_sound ok19_1 rfl rfl rfl | exact small_sound ok19_1 rfl rfl rfl rfl | exact small_sound ok19_1 rfl rfl rfl rfl rfl | exact small_sound ok19_1 rfl rfl rfl rfl rfl rfl | exact small_sound ok19_1 rfl rfl rfl rfl rfl rfl rfl | exact small_sound ok19_1 rfl rfl rfl rfl rfl rfl rfl rfl | exact small_sound ok19_1 rfl rfl rfl rfl rfl rfl rfl rfl rfl | exact small_sound ok19_1 rfl rfl rfl rfl rfl rfl rfl rfl rfl rfl | exact small_sound ok19_1 rfl rfl rfl rfl rfl rfl rfl rfl rfl rfl rfl | exact small_sound ok19_1 rfl rfl rfl rfl rfl rfl rfl rfl rfl rfl rfl rfl) (by kernel_rfl)
def ga21 : FuncId → Option Fspec := upd ga20 60 (some div1S)
theorem ok21_1 : EnvOk ⟨Try.prog, plainT, ga21, de1, fun _ => none, 0⟩ := EnvOk.add ok20_1 (by first | exact div1_sound ok20_1 | exact div1_sound ok20_1 rfl | exact div1_sound ok20_1 rfl rfl | exact div1_sound ok20_1 rfl rfl rfl | exact div1_sound ok20_1 rfl rfl rfl rfl | exact div1_sound ok20_1 rfl rfl rfl rfl rfl | exact div1_sound ok20_1 rfl rfl rfl rfl rfl rfl | exact div1_sound ok20_1 rfl rfl rfl rfl rfl rfl rfl | exact div1_sound ok20_1 rfl rfl rfl rfl rfl rfl rfl rfl | exact div1_sound ok20_1 rfl rfl rfl rfl rfl rfl rfl rfl rfl | exact div1_sound ok20_1 rfl rfl rfl rfl rfl rfl rfl rfl rfl rfl | exact div1_sound ok20_1 rfl rfl rfl rfl rfl rfl rfl rfl rfl rfl rfl | exact div1_sound ok20_1 rfl rfl rfl rfl rfl rfl rfl rfl rfl rfl rfl rfl) (by kernel_rfl)
def ga22 : FuncId → Option Fspec := upd ga21 59 (some gcdS)
theorem ok22_1 : EnvOk ⟨Try.prog, plainT, ga22, de1, fun _ => none, 0⟩ := EnvOk.add ok21_1 (by first | exact gcd_sound ok21_1 | exact gcd_sound ok21_1 rfl | exact gcd_sound ok21_1 rfl rfl | exact gcd_sound ok21_1 rfl rfl rfl | exact gcd_sound ok21_1 rfl rfl rfl rfl | exact gcd_sound ok21_1 rfl rfl rfl rfl rfl | exact gcd_sound ok21_1 rfl rfl rfl rfl rfl rfl | exact gcd_sound ok21_1 rfl rfl rfl rfl rfl rfl rfl | exact gcd_sound ok21_1 rfl rfl rfl rfl rfl rfl rfl rfl | exact gcd_sound ok21_1 rfl rfl rfl rfl rfl rfl rfl rfl rfl | exact gcd_sound ok21_1 rfl rfl rfl rfl rfl rfl rfl rfl rfl rfl | exact gcd_sound ok21_1 rfl rfl rfl rfl rfl rfl rfl rfl rfl rfl rfl | exact gcd_sound ok21_1 rfl rfl rfl rfl rfl rfl rfl rfl rfl rfl rfl rfl) (by kernel_rfl)
def ga23 : FuncId → Option Fspec := upd ga22 71 (some ofS)
theorem ok23_1 : EnvOk ⟨Try.prog, plainT, ga23, de1, fun _ => none, 0⟩ := EnvOk.add ok22_1 (by first | exact of_sound ok22_1 | exact of_sound ok22_1 rfl | exact of_sound ok22_1 rfl rfl | exact of_sound ok22_1 rfl rfl rfl | exact of_sound ok22_1 rfl rfl rfl rfl | exact of_sound ok22_1 rfl rfl rfl rfl rfl | exact of_sound ok22_1 rfl rfl rfl rfl rfl rfl | exact of_sound ok22_1 rfl rfl rfl rfl rfl rfl rfl | exact of_sound ok22_1 rfl rfl rfl rfl rfl rfl rfl rfl | exact of_sound ok22_1 rfl rfl rfl rfl rfl rfl rfl rfl rfl | exact of_sound ok22_1 rfl rfl rfl rfl rfl rfl rfl rfl rfl rfl | exact of_sound ok22_1 rfl rfl rfl rfl rfl rfl rfl rfl rfl rfl rfl | exact of_sound ok22_1 rfl rfl rfl rfl rfl rfl rfl rfl rfl rfl rfl rfl) (by kernel_rfl)
def ga24 : FuncId → Option Fspec := upd ga23 58 (some ofiS)
theorem ok24_1 : EnvOk ⟨Try.prog, plainT, ga24, de1, fun _ => none, 0⟩ := EnvOk.add ok23_1 (by first | exact ofi_sound ok23_1 | exact ofi_sound ok23_1 rfl | exact ofi_sound ok23_1 rfl rfl | exact ofi_sound ok23_1 rfl rfl rfl | exact ofi_sound ok23_1 rfl rfl rfl rfl | exact ofi_sound ok23_1 rfl rfl rfl rfl rfl | exact ofi_sound ok23_1 rfl rfl rfl rfl rfl rfl | exact ofi_sound ok23_1 rfl rfl rfl rfl rfl rfl rfl | exact ofi_sound ok23_1 rfl rfl rfl rfl rfl rfl rfl rfl | exact ofi_sound ok23_1 rfl rfl rfl rfl rfl rfl rfl rfl rfl | exact ofi_sound ok23_1 rfl rfl rfl rfl rfl rfl rfl rfl rfl rfl | exact ofi_sound ok23_1 rfl rfl rfl rfl rfl rfl rfl rfl rfl rfl rfl | exact ofi_sound ok23_1 rfl rfl rfl rfl rfl rfl rfl rfl rfl rfl rfl rfl) (by kernel_rfl)
def ga25 : FuncId → Option Fspec := upd ga24 53 (some normiS)
theorem ok25_1 : EnvOk ⟨Try.prog, plainT, ga25, de1, fun _ => none, 0⟩ := EnvOk.add ok24_1 (by first | exact normi_sound ok24_1 | exact normi_sound ok24_1 rfl | exact normi_sound ok24_1 rfl rfl | exact normi_sound ok24_1 rfl rfl rfl | exact normi_sound ok24_1 rfl rfl rfl rfl | exact normi_sound ok24_1 rfl rfl rfl rfl rfl | exact normi_sound ok24_1 rfl rfl rfl rfl rfl rfl | exact normi_sound ok24_1 rfl rfl rfl rfl rfl rfl rfl | exact normi_sound ok24_1 rfl rfl rfl rfl rfl rfl rfl rfl | exact normi_sound ok24_1 rfl rfl rfl rfl rfl rfl rfl rfl rfl | exact normi_sound ok24_1 rfl rfl rfl rfl rfl rfl rfl rfl rfl rfl | exact normi_sound ok24_1 rfl rfl rfl rfl rfl rfl rfl rfl rfl rfl rfl | exact normi_sound ok24_1 rfl rfl rfl rfl rfl rfl rfl rfl rfl rfl rfl rfl) (by kernel_rfl)
def ga26 : FuncId → Option Fspec := upd ga25 70 (some negiS)
theorem ok26_1 : EnvOk ⟨Try.prog, plainT, ga26, de1, fun _ => none, 0⟩ := EnvOk.add ok25_1 (by first | exact negi_sound ok25_1 | exact negi_sound ok25_1 rfl | exact negi_sound ok25_1 rfl rfl | exact negi_sound ok25_1 rfl rfl rfl | exact negi_sound ok25_1 rfl rfl rfl rfl | exact negi_sound ok25_1 rfl rfl rfl rfl rfl | exact negi_sound ok25_1 rfl rfl rfl rfl rfl rfl | exact negi_sound ok25_1 rfl rfl rfl rfl rfl rfl rfl | exact negi_sound ok25_1 rfl rfl rfl rfl rfl rfl rfl rfl | exact negi_sound ok25_1 rfl rfl rfl rfl rfl rfl rfl rfl rfl | exact negi_sound ok25_1 rfl rfl rfl rfl rfl rfl rfl rfl rfl rfl | exact negi_sound ok25_1 rfl rfl rfl rfl rfl rfl rfl rfl rfl rfl rfl | exact negi_sound ok25_1 rfl rfl rfl rfl rfl rfl rfl rfl rfl rfl rfl rfl) (by kernel_rfl)
def ga27 : FuncId → Option Fspec := upd ga26 61 (some signiS)
theorem ok27_1 : EnvOk ⟨Try.prog, plainT, ga27, de1, fun _ => none, 0⟩ := EnvOk.add ok26_1 (by first | exact signi_sound ok26_1 | exact signi_sound ok26_1 rfl | exact signi_sound ok26_1 rfl rfl | exact signi_sound ok26_1 rfl rfl rfl | exact signi_sound ok26_1 rfl rfl rfl rfl | exact signi_sound ok26_1 rfl rfl rfl rfl rfl | exact signi_sound ok26_1 rfl rfl rfl rfl rfl rfl | exact signi_sound ok26_1 rfl rfl rfl rfl rfl rfl rfl | exact signi_sound ok26_1 rfl rfl rfl rfl rfl rfl rfl rfl | exact signi_sound ok26_1 rfl rfl rfl rfl rfl rfl rfl rfl rfl | exact signi_sound ok26_1 rfl rfl rfl rfl rfl rfl rfl rfl rfl rfl | exact signi_sound ok26_1 rfl rfl rfl rfl rfl rfl rfl rfl rfl rfl rfl | exact signi_sound ok26_1 rfl rfl rfl rfl rfl rfl rfl rfl rfl rfl rfl rfl) (by kernel_rfl)
def ga28 : FuncId → Option Fspec := upd ga27 62 (some addiS)
theorem ok28_1 : EnvOk ⟨Try.prog, plainT, ga28, de1, fun _ => none, 0⟩ := EnvOk.add ok27_1 (by first | exact addi_sound ok27_1 | exact addi_sound ok27_1 rfl | exact addi_sound ok27_1 rfl rfl | exact addi_sound ok27_1 rfl rfl rfl | exact addi_sound ok27_1 rfl rfl rfl rfl | exact addi_sound ok27_1 rfl rfl rfl rfl rfl | exact addi_sound ok27_1 rfl rfl rfl rfl rfl rfl | exact addi_sound ok27_1 rfl rfl rfl rfl rfl rfl rfl | exact addi_sound ok27_1 rfl rfl rfl rfl rfl rfl rfl rfl | exact addi_sound ok27_1 rfl rfl rfl rfl rfl rfl rfl rfl rfl | exact addi_sound ok27_1 rfl rfl rfl rfl rfl rfl rfl rfl rfl rfl | exact addi_sound ok27_1 rfl rfl rfl rfl rfl rfl rfl rfl rfl rfl rfl | exact addi_sound ok27_1 rfl rfl rfl rfl rfl rfl rfl rfl rfl rfl rfl rfl) (by kernel_rfl)
def ga29 : FuncId → Option Fspec := upd ga28 63 (some subiS)
theorem ok29_1 : EnvOk ⟨Try.prog, plainT, ga29, de1, fun _ => none, 0⟩ := EnvOk.add ok28_1 (by first | exact subi_sound ok28_1 | exact subi_sound ok28_1 rfl | exact subi_sound ok28_1 rfl rfl | exact subi_sound ok28_1 rfl rfl rfl | exact subi_sound ok28_1 rfl rfl rfl rfl | exact subi_sound ok28_1 rfl rfl rfl rfl rfl | exact subi_sound ok28_1 rfl rfl rfl rfl rfl rfl | exact subi_sound ok28_1 rfl rfl rfl rfl rfl rfl rfl | exact subi_sound ok28_1 rfl rfl rfl rfl rfl rfl rfl rfl | exact subi_sound ok28_1 rfl rfl rfl rfl rfl rfl rfl rfl rfl | exact subi_sound ok28_1 rfl rfl rfl rfl rfl rfl rfl rfl rfl rfl | exact subi_sound ok28_1 rfl rfl rfl rfl rfl rfl rfl rfl rfl rfl rfl | exact subi_sound ok28_1 rfl rfl rfl rfl rfl rfl rfl rfl rfl rfl rfl rfl) (by kernel_rfl)
def ga30 : FuncId → Option Fspec := upd ga29 64 (some fromS)
theorem ok30_1 : EnvOk ⟨Try.prog, plainT, ga30, de1, fun _ => none, 0⟩ := EnvOk.add ok29_1 (by first | exact from_sound ok29_1 | exact from_sound ok29_1 rfl | exact from_sound ok29_1 rfl rfl | exact from_sound ok29_1 rfl rfl rfl | exact from_sound ok29_1 rfl rfl rfl rfl | exact from_sound ok29_1 rfl rfl rfl rfl rfl | exact from_sound ok29_1 rfl rfl rfl rfl rfl rfl | exact from_sound ok29_1 rfl rfl rfl rfl rfl rfl rfl | exact from_sound ok29_1 rfl rfl rfl rfl rfl rfl rfl rfl | exact from_sound ok29_1 rfl rfl rfl rfl rfl rfl rfl rfl rfl | exact from_sound ok29_1 rfl rfl rfl rfl rfl rfl rfl rfl rfl rfl | exact from_sound ok29_1 rfl rfl rfl rfl rfl rfl rfl rfl rfl rfl rfl | exact from_sound ok29_1 rfl rfl rfl rfl rfl rfl rfl rfl rfl rfl rfl rfl) (by kernel_rfl)
def ga31 : FuncId → Option Fspec := upd ga30 55 (some divIS)
theorem ok31_1 : EnvOk ⟨Try.prog, plainT, ga31, de1, fun _ => none, 0⟩ := EnvOk.add ok30_1 (by first | exact divI_sound ok30_1 | exact divI_sound ok30_1 rfl | exact divI_sound ok30_1 rfl rfl | exact divI_sound ok30_1 rfl rfl rfl | exact divI_sound ok30_1 rfl rfl rfl rfl | exact divI_sound ok30_1 rfl rfl rfl rfl rfl | exact divI_sound ok30_1 rfl rfl rfl rfl rfl rfl | exact divI_sound ok30_1 rfl rfl rfl rfl rfl rfl rfl | exact divI_sound ok30_1 rfl rfl rfl rfl rfl rfl rfl rfl | exact divI_sound ok30_1 rfl rfl rfl rfl rfl rfl rfl rfl rfl | exact divI_sound ok30_1 rfl rfl rfl rfl rfl rfl rfl rfl rfl rfl | exact divI_sound ok30_1 rfl rfl rfl rfl rfl rfl rfl rfl rfl rfl rfl | exact divI_sound ok30_1 rfl rfl rfl rfl rfl rfl rfl rfl rfl rfl rfl rfl) (by kernel_rfl)
def ga32 : FuncId → Option Fspec := upd ga31 54 (some gcdIS)
theorem ok32_1 : EnvOk ⟨Try.prog, plainT, ga32, de1, fun _ => none, 0⟩ := EnvOk.add ok31_1 (by first | exact gcdI_sound ok31_1 | exact gcdI_sound ok31_1 rfl | exact gcdI_sound ok31_1 rfl rfl | exact gcdI_sound ok31_1 rfl rfl rfl | exact gcdI_sound ok31_1 rfl rfl rfl rfl | exact gcdI_sound ok31_1 rfl rfl rfl rfl rfl | exact gcdI_sound ok31_1 rfl rfl rfl rfl rfl rfl | exact gcdI_sound ok31_1 rfl rfl rfl rfl rfl rfl rfl | exact gcdI_sound ok31_1 rfl rfl rfl rfl rfl rfl rfl rfl | exact gcdI_sound ok31_1 rfl rfl rfl rfl rfl rfl rfl rfl rfl | exact gcdI_sound ok31_1 rfl rfl rfl rfl rfl rfl rfl rfl rfl rfl | exact gcdI_sound ok31_1 rfl rfl rfl rfl rfl rfl rfl rfl rfl rfl rfl | exact gcdI_sound ok31_1 rfl rfl rfl rfl rfl rfl rfl rfl rfl rfl rfl rfl) (by kernel_rfl)
def ga33 : FuncId → Option Fspec := upd ga32 56 (some oneS)
theorem ok33_1 : EnvOk ⟨Try.prog, plainT, ga33, de1, fun _ => none, 0⟩ := EnvOk.add ok32_1 (by first | exact one_sound ok32_1 | exact one_sound ok32_1 rfl | exact one_sound ok32_1 rfl rfl | exact one_sound ok32_1 rfl rfl rfl | exact one_sound ok32_1 rfl rfl rfl rfl | exact one_sound ok32_1 rfl rfl rfl rfl rfl | exact one_sound ok32_1 rfl rfl rfl rfl rfl rfl | exact one_sound ok32_1 rfl rfl rfl rfl rfl rfl rfl | exact one_sound ok32_1 rfl rfl rfl rfl rfl rfl rfl rfl | exact one_sound ok32_1 rfl rfl rfl rfl rfl rfl rfl rfl rfl | exact one_sound ok32_1 rfl rfl rfl rfl rfl rfl rfl rfl rfl rfl | exact one_sound ok32_1 rfl rfl rfl rfl rfl rfl rfl rfl rfl rfl rfl | exact one_sound ok32_1 rfl rfl rfl rfl rfl rfl rfl rfl rfl rfl rfl rfl) (by kernel_rfl)
def ga34 : FuncId → Option Fspec := upd ga33 50 (some aboveS)
theorem ok34_1 : EnvOk ⟨Try.prog, plainT, ga34, de1, fun _ => none, 0⟩ := EnvOk.add ok33_1 (by first | exact above_sound ok33_1 | exact above_sound ok33_1 rfl | exact above_sound ok33_1 rfl rfl | exact above_sound ok33_1 rfl rfl rfl | exact above_sound ok33_1 rfl rfl rfl rfl | exact above_sound ok33_1 rfl rfl rfl rfl rfl | exact above_sound ok33_1 rfl rfl rfl rfl rfl rfl | exact above_sound ok33_1 rfl rfl rfl rfl rfl rfl rfl | exact above_sound ok33_1 rfl rfl rfl rfl rfl rfl rfl rfl | exact above_sound ok33_1 rfl rfl rfl rfl rfl rfl rfl rfl rfl | exact above_sound ok33_1 rfl rfl rfl rfl rfl rfl rfl rfl rfl rfl | exact above_sound ok33_1 rfl rfl rfl rfl rfl rfl rfl rfl rfl rfl rfl | exact above_sound ok33_1 rfl rfl rfl rfl rfl rfl rfl rfl rfl rfl rfl rfl) (by kernel_rfl)
def ga35 : FuncId → Option Fspec := upd ga34 51 (some belowS)
theorem ok35_1 : EnvOk ⟨Try.prog, plainT, ga35, de1, fun _ => none, 0⟩ := EnvOk.add ok34_1 (by first | exact below_sound ok34_1 | exact below_sound ok34_1 rfl | exact below_sound ok34_1 rfl rfl | exact below_sound ok34_1 rfl rfl rfl | exact below_sound ok34_1 rfl rfl rfl rfl | exact below_sound ok34_1 rfl rfl rfl rfl rfl | exact below_sound ok34_1 rfl rfl rfl rfl rfl rfl | exact below_sound ok34_1 rfl rfl rfl rfl rfl rfl rfl | exact below_sound ok34_1 rfl rfl rfl rfl rfl rfl rfl rfl | exact below_sound ok34_1 rfl rfl rfl rfl rfl rfl rfl rfl rfl | exact below_sound ok34_1 rfl rfl rfl rfl rfl rfl rfl rfl rfl rfl | exact below_sound ok34_1 rfl rfl rfl rfl rfl rfl rfl rfl rfl rfl rfl | exact below_sound ok34_1 rfl rfl rfl rfl rfl rfl rfl rfl rfl rfl rfl rfl) (by kernel_rfl)
def ga36 : FuncId → Option Fspec := upd ga35 49 (some makeS)
theorem ok36_1 : EnvOk ⟨Try.prog, plainT, ga36, de1, fun _ => none, 0⟩ := EnvOk.add ok35_1 (by first | exact make_sound ok35_1 | exact make_sound ok35_1 rfl | exact make_sound ok35_1 rfl rfl | exact make_sound ok35_1 rfl rfl rfl | exact make_sound ok35_1 rfl rfl rfl rfl | exact make_sound ok35_1 rfl rfl rfl rfl rfl | exact make_sound ok35_1 rfl rfl rfl rfl rfl rfl | exact make_sound ok35_1 rfl rfl rfl rfl rfl rfl rfl | exact make_sound ok35_1 rfl rfl rfl rfl rfl rfl rfl rfl | exact make_sound ok35_1 rfl rfl rfl rfl rfl rfl rfl rfl rfl | exact make_sound ok35_1 rfl rfl rfl rfl rfl rfl rfl rfl rfl rfl | exact make_sound ok35_1 rfl rfl rfl rfl rfl rfl rfl rfl rfl rfl rfl | exact make_sound ok35_1 rfl rfl rfl rfl rfl rfl rfl rfl rfl rfl rfl rfl) (by kernel_rfl)
def ga37 : FuncId → Option Fspec := upd ga36 43 (some rnormS)
theorem ok37_1 : EnvOk ⟨Try.prog, plainT, ga37, de1, fun _ => none, 0⟩ := EnvOk.add ok36_1 (by first | exact rnorm_sound ok36_1 | exact rnorm_sound ok36_1 rfl | exact rnorm_sound ok36_1 rfl rfl | exact rnorm_sound ok36_1 rfl rfl rfl | exact rnorm_sound ok36_1 rfl rfl rfl rfl | exact rnorm_sound ok36_1 rfl rfl rfl rfl rfl | exact rnorm_sound ok36_1 rfl rfl rfl rfl rfl rfl | exact rnorm_sound ok36_1 rfl rfl rfl rfl rfl rfl rfl | exact rnorm_sound ok36_1 rfl rfl rfl rfl rfl rfl rfl rfl | exact rnorm_sound ok36_1 rfl rfl rfl rfl rfl rfl rfl rfl rfl | exact rnorm_sound ok36_1 rfl rfl rfl rfl rfl rfl rfl rfl rfl rfl | exact rnorm_sound ok36_1 rfl rfl rfl rfl rfl rfl rfl rfl rfl rfl rfl | exact rnorm_sound ok36_1 rfl rfl rfl rfl rfl rfl rfl rfl rfl rfl rfl rfl) (by kernel_rfl)
def ga38 : FuncId → Option Fspec := upd ga37 44 (some fitsS)
theorem ok38_1 : EnvOk ⟨Try.prog, plainT, ga38, de1, fun _ => none, 0⟩ := EnvOk.add ok37_1 (by first | exact fits_sound ok37_1 | exact fits_sound ok37_1 rfl | exact fits_sound ok37_1 rfl rfl | exact fits_sound ok37_1 rfl rfl rfl | exact fits_sound ok37_1 rfl rfl rfl rfl | exact fits_sound ok37_1 rfl rfl rfl rfl rfl | exact fits_sound ok37_1 rfl rfl rfl rfl rfl rfl | exact fits_sound ok37_1 rfl rfl rfl rfl rfl rfl rfl | exact fits_sound ok37_1 rfl rfl rfl rfl rfl rfl rfl rfl | exact fits_sound ok37_1 rfl rfl rfl rfl rfl rfl rfl rfl rfl | exact fits_sound ok37_1 rfl rfl rfl rfl rfl rfl rfl rfl rfl rfl | exact fits_sound ok37_1 rfl rfl rfl rfl rfl rfl rfl rfl rfl rfl rfl | exact fits_sound ok37_1 rfl rfl rfl rfl rfl rfl rfl rfl rfl rfl rfl rfl) (by kernel_rfl)
def ga39 : FuncId → Option Fspec := upd ga38 38 (some plcS)
theorem ok39_1 : EnvOk ⟨Try.prog, plainT, ga39, de1, fun _ => none, 0⟩ := EnvOk.add ok38_1 (by first | exact plc_sound ok38_1 | exact plc_sound ok38_1 rfl | exact plc_sound ok38_1 rfl rfl | exact plc_sound ok38_1 rfl rfl rfl | exact plc_sound ok38_1 rfl rfl rfl rfl | exact plc_sound ok38_1 rfl rfl rfl rfl rfl | exact plc_sound ok38_1 rfl rfl rfl rfl rfl rfl | exact plc_sound ok38_1 rfl rfl rfl rfl rfl rfl rfl | exact plc_sound ok38_1 rfl rfl rfl rfl rfl rfl rfl rfl | exact plc_sound ok38_1 rfl rfl rfl rfl rfl rfl rfl rfl rfl | exact plc_sound ok38_1 rfl rfl rfl rfl rfl rfl rfl rfl rfl rfl | exact plc_sound ok38_1 rfl rfl rfl rfl rfl rfl rfl rfl rfl rfl rfl | exact plc_sound ok38_1 rfl rfl rfl rfl rfl rfl rfl rfl rfl rfl rfl rfl) (by kernel_rfl)
def ga40 : FuncId → Option Fspec := upd ga39 37 (some mayS)
theorem ok40_1 : EnvOk ⟨Try.prog, plainT, ga40, de1, fun _ => none, 0⟩ := EnvOk.add ok39_1 (by first | exact may_sound ok39_1 | exact may_sound ok39_1 rfl | exact may_sound ok39_1 rfl rfl | exact may_sound ok39_1 rfl rfl rfl | exact may_sound ok39_1 rfl rfl rfl rfl | exact may_sound ok39_1 rfl rfl rfl rfl rfl | exact may_sound ok39_1 rfl rfl rfl rfl rfl rfl | exact may_sound ok39_1 rfl rfl rfl rfl rfl rfl rfl | exact may_sound ok39_1 rfl rfl rfl rfl rfl rfl rfl rfl | exact may_sound ok39_1 rfl rfl rfl rfl rfl rfl rfl rfl rfl | exact may_sound ok39_1 rfl rfl rfl rfl rfl rfl rfl rfl rfl rfl | exact may_sound ok39_1 rfl rfl rfl rfl rfl rfl rfl rfl rfl rfl rfl | exact may_sound ok39_1 rfl rfl rfl rfl rfl rfl rfl rfl rfl rfl rfl rfl) (by kernel_rfl)
def ga41 : FuncId → Option Fspec := upd ga40 39 (some wordS)
theorem ok41_1 : EnvOk ⟨Try.prog, plainT, ga41, de1, fun _ => none, 0⟩ := EnvOk.add ok40_1 (by first | exact word_sound ok40_1 | exact word_sound ok40_1 rfl | exact word_sound ok40_1 rfl rfl | exact word_sound ok40_1 rfl rfl rfl | exact word_sound ok40_1 rfl rfl rfl rfl | exact word_sound ok40_1 rfl rfl rfl rfl rfl | exact word_sound ok40_1 rfl rfl rfl rfl rfl rfl | exact word_sound ok40_1 rfl rfl rfl rfl rfl rfl rfl | exact word_sound ok40_1 rfl rfl rfl rfl rfl rfl rfl rfl | exact word_sound ok40_1 rfl rfl rfl rfl rfl rfl rfl rfl rfl | exact word_sound ok40_1 rfl rfl rfl rfl rfl rfl rfl rfl rfl rfl | exact word_sound ok40_1 rfl rfl rfl rfl rfl rfl rfl rfl rfl rfl rfl | exact word_sound ok40_1 rfl rfl rfl rfl rfl rfl rfl rfl rfl rfl rfl rfl) (by kernel_rfl)
def ga42 : FuncId → Option Fspec := upd ga41 40 (some binS)
theorem ok42_1 : EnvOk ⟨Try.prog, plainT, ga42, de1, fun _ => none, 0⟩ := EnvOk.add ok41_1 (by first | exact bin_sound ok41_1 | exact bin_sound ok41_1 rfl | exact bin_sound ok41_1 rfl rfl | exact bin_sound ok41_1 rfl rfl rfl | exact bin_sound ok41_1 rfl rfl rfl rfl | exact bin_sound ok41_1 rfl rfl rfl rfl rfl | exact bin_sound ok41_1 rfl rfl rfl rfl rfl rfl | exact bin_sound ok41_1 rfl rfl rfl rfl rfl rfl rfl | exact bin_sound ok41_1 rfl rfl rfl rfl rfl rfl rfl rfl | exact bin_sound ok41_1 rfl rfl rfl rfl rfl rfl rfl rfl rfl | exact bin_sound ok41_1 rfl rfl rfl rfl rfl rfl rfl rfl rfl rfl | exact bin_sound ok41_1 rfl rfl rfl rfl rfl rfl rfl rfl rfl rfl rfl | exact bin_sound ok41_1 rfl rfl rfl rfl rfl rfl rfl rfl rfl rfl rfl rfl) (by kernel_rfl)
def ga43 : FuncId → Option Fspec := upd ga42 45 (some namesS)
theorem ok43_1 : EnvOk ⟨Try.prog, plainT, ga43, de1, fun _ => none, 0⟩ := EnvOk.add ok42_1 (by first | exact names_sound ok42_1 | exact names_sound ok42_1 rfl | exact names_sound ok42_1 rfl rfl | exact names_sound ok42_1 rfl rfl rfl | exact names_sound ok42_1 rfl rfl rfl rfl | exact names_sound ok42_1 rfl rfl rfl rfl rfl | exact names_sound ok42_1 rfl rfl rfl rfl rfl rfl | exact names_sound ok42_1 rfl rfl rfl rfl rfl rfl rfl | exact names_sound ok42_1 rfl rfl rfl rfl rfl rfl rfl rfl | exact names_sound ok42_1 rfl rfl rfl rfl rfl rfl rfl rfl rfl | exact names_sound ok42_1 rfl rfl rfl rfl rfl rfl rfl rfl rfl rfl | exact names_sound ok42_1 rfl rfl rfl rfl rfl rfl rfl rfl rfl rfl rfl | exact names_sound ok42_1 rfl rfl rfl rfl rfl rfl rfl rfl rfl rfl rfl rfl) (by kernel_rfl)
def ga44 : FuncId → Option Fspec := upd ga43 41 (some votesS)
theorem ok44_1 : EnvOk ⟨Try.prog, plainT, ga44, de1, fun _ => none, 0⟩ := EnvOk.add ok43_1 (by first | exact votes_sound ok43_1 | exact votes_sound ok43_1 rfl | exact votes_sound ok43_1 rfl rfl | exact votes_sound ok43_1 rfl rfl rfl | exact votes_sound ok43_1 rfl rfl rfl rfl | exact votes_sound ok43_1 rfl rfl rfl rfl rfl | exact votes_sound ok43_1 rfl rfl rfl rfl rfl rfl | exact votes_sound ok43_1 rfl rfl rfl rfl rfl rfl rfl | exact votes_sound ok43_1 rfl rfl rfl rfl rfl rfl rfl rfl | exact votes_sound ok43_1 rfl rfl rfl rfl rfl rfl rfl rfl rfl | exact votes_sound ok43_1 rfl rfl rfl rfl rfl rfl rfl rfl rfl rfl | exact votes_sound ok43_1 rfl rfl rfl rfl rfl rfl rfl rfl rfl rfl rfl | exact votes_sound ok43_1 rfl rfl rfl rfl rfl rfl rfl rfl rfl rfl rfl rfl) (by kernel_rfl)
def ga45 : FuncId → Option Fspec := upd ga44 29 (some aheadS)
theorem ok45_1 : EnvOk ⟨Try.prog, plainT, ga45, de1, fun _ => none, 0⟩ := EnvOk.add ok44_1 (by first | exact ahead_sound ok44_1 | exact ahead_sound ok44_1 rfl | exact ahead_sound ok44_1 rfl rfl | exact ahead_sound ok44_1 rfl rfl rfl | exact ahead_sound ok44_1 rfl rfl rfl rfl | exact ahead_sound ok44_1 rfl rfl rfl rfl rfl | exact ahead_sound ok44_1 rfl rfl rfl rfl rfl rfl | exact ahead_sound ok44_1 rfl rfl rfl rfl rfl rfl rfl | exact ahead_sound ok44_1 rfl rfl rfl rfl rfl rfl rfl rfl | exact ahead_sound ok44_1 rfl rfl rfl rfl rfl rfl rfl rfl rfl | exact ahead_sound ok44_1 rfl rfl rfl rfl rfl rfl rfl rfl rfl rfl | exact ahead_sound ok44_1 rfl rfl rfl rfl rfl rfl rfl rfl rfl rfl rfl | exact ahead_sound ok44_1 rfl rfl rfl rfl rfl rfl rfl rfl rfl rfl rfl rfl) (by kernel_rfl)
def ga46 : FuncId → Option Fspec := upd ga45 30 (some restS)
theorem ok46_1 : EnvOk ⟨Try.prog, plainT, ga46, de1, fun _ => none, 0⟩ := EnvOk.add ok45_1 (by first | exact rest_sound ok45_1 | exact rest_sound ok45_1 rfl | exact rest_sound ok45_1 rfl rfl | exact rest_sound ok45_1 rfl rfl rfl | exact rest_sound ok45_1 rfl rfl rfl rfl | exact rest_sound ok45_1 rfl rfl rfl rfl rfl | exact rest_sound ok45_1 rfl rfl rfl rfl rfl rfl | exact rest_sound ok45_1 rfl rfl rfl rfl rfl rfl rfl | exact rest_sound ok45_1 rfl rfl rfl rfl rfl rfl rfl rfl | exact rest_sound ok45_1 rfl rfl rfl rfl rfl rfl rfl rfl rfl | exact rest_sound ok45_1 rfl rfl rfl rfl rfl rfl rfl rfl rfl rfl | exact rest_sound ok45_1 rfl rfl rfl rfl rfl rfl rfl rfl rfl rfl rfl | exact rest_sound ok45_1 rfl rfl rfl rfl rfl rfl rfl rfl rfl rfl rfl rfl) (by kernel_rfl)
def ga47 : FuncId → Option Fspec := upd ga46 31 (some hesS)
theorem ok47_1 : EnvOk ⟨Try.prog, plainT, ga47, de1, fun _ => none, 0⟩ := EnvOk.add ok46_1 (by first | exact hes_sound ok46_1 | exact hes_sound ok46_1 rfl | exact hes_sound ok46_1 rfl rfl | exact hes_sound ok46_1 rfl rfl rfl | exact hes_sound ok46_1 rfl rfl rfl rfl | exact hes_sound ok46_1 rfl rfl rfl rfl rfl | exact hes_sound ok46_1 rfl rfl rfl rfl rfl rfl | exact hes_sound ok46_1 rfl rfl rfl rfl rfl rfl rfl | exact hes_sound ok46_1 rfl rfl rfl rfl rfl rfl rfl rfl | exact hes_sound ok46_1 rfl rfl rfl rfl rfl rfl rfl rfl rfl | exact hes_sound ok46_1 rfl rfl rfl rfl rfl rfl rfl rfl rfl rfl | exact hes_sound ok46_1 rfl rfl rfl rfl rfl rfl rfl rfl rfl rfl rfl | exact hes_sound ok46_1 rfl rfl rfl rfl rfl rfl rfl rfl rfl rfl rfl rfl) (by kernel_rfl)
def ga48 : FuncId → Option Fspec := upd ga47 17 (some chkES)
theorem ok48_1 : EnvOk ⟨Try.prog, plainT, ga48, de1, fun _ => none, 0⟩ := EnvOk.add ok47_1 (by first | exact chkE_sound ok47_1 | exact chkE_sound ok47_1 rfl | exact chkE_sound ok47_1 rfl rfl | exact chkE_sound ok47_1 rfl rfl rfl | exact chkE_sound ok47_1 rfl rfl rfl rfl | exact chkE_sound ok47_1 rfl rfl rfl rfl rfl | exact chkE_sound ok47_1 rfl rfl rfl rfl rfl rfl | exact chkE_sound ok47_1 rfl rfl rfl rfl rfl rfl rfl | exact chkE_sound ok47_1 rfl rfl rfl rfl rfl rfl rfl rfl | exact chkE_sound ok47_1 rfl rfl rfl rfl rfl rfl rfl rfl rfl | exact chkE_sound ok47_1 rfl rfl rfl rfl rfl rfl rfl rfl rfl rfl | exact chkE_sound ok47_1 rfl rfl rfl rfl rfl rfl rfl rfl rfl rfl rfl | exact chkE_sound ok47_1 rfl rfl rfl rfl rfl rfl rfl rfl rfl rfl rfl rfl) (by kernel_rfl)
def ga49 : FuncId → Option Fspec := upd ga48 35 (some undoesS)
theorem ok49_1 : EnvOk ⟨Try.prog, plainT, ga49, de1, fun _ => none, 0⟩ := EnvOk.add ok48_1 (by first | exact undoes_sound ok48_1 | exact undoes_sound ok48_1 rfl | exact undoes_sound ok48_1 rfl rfl | exact undoes_sound ok48_1 rfl rfl rfl | exact undoes_sound ok48_1 rfl rfl rfl rfl | exact undoes_sound ok48_1 rfl rfl rfl rfl rfl | exact undoes_sound ok48_1 rfl rfl rfl rfl rfl rfl | exact undoes_sound ok48_1 rfl rfl rfl rfl rfl rfl rfl | exact undoes_sound ok48_1 rfl rfl rfl rfl rfl rfl rfl rfl | exact undoes_sound ok48_1 rfl rfl rfl rfl rfl rfl rfl rfl rfl | exact undoes_sound ok48_1 rfl rfl rfl rfl rfl rfl rfl rfl rfl rfl | exact undoes_sound ok48_1 rfl rfl rfl rfl rfl rfl rfl rfl rfl rfl rfl | exact undoes_sound ok48_1 rfl rfl rfl rfl rfl rfl rfl rfl rfl rfl rfl rfl) (by kernel_rfl)
def ga50 : FuncId → Option Fspec := upd ga49 23 (some doneXS)
theorem ok50_1 : EnvOk ⟨Try.prog, plainT, ga50, de1, fun _ => none, 0⟩ := EnvOk.add ok49_1 (by first | exact done_sound ok49_1 | exact done_sound ok49_1 rfl | exact done_sound ok49_1 rfl rfl | exact done_sound ok49_1 rfl rfl rfl | exact done_sound ok49_1 rfl rfl rfl rfl | exact done_sound ok49_1 rfl rfl rfl rfl rfl | exact done_sound ok49_1 rfl rfl rfl rfl rfl rfl | exact done_sound ok49_1 rfl rfl rfl rfl rfl rfl rfl | exact done_sound ok49_1 rfl rfl rfl rfl rfl rfl rfl rfl | exact done_sound ok49_1 rfl rfl rfl rfl rfl rfl rfl rfl rfl | exact done_sound ok49_1 rfl rfl rfl rfl rfl rfl rfl rfl rfl rfl | exact done_sound ok49_1 rfl rfl rfl rfl rfl rfl rfl rfl rfl rfl rfl | exact done_sound ok49_1 rfl rfl rfl rfl rfl rfl rfl rfl rfl rfl rfl rfl) (by kernel_rfl)
def ga51 : FuncId → Option Fspec := upd ga50 12 (some rliveS)
theorem ok51_1 : EnvOk ⟨Try.prog, plainT, ga51, de1, fun _ => none, 0⟩ := EnvOk.add ok50_1 (by first | exact rlive_sound ok50_1 | exact rlive_sound ok50_1 rfl | exact rlive_sound ok50_1 rfl rfl | exact rlive_sound ok50_1 rfl rfl rfl | exact rlive_sound ok50_1 rfl rfl rfl rfl | exact rlive_sound ok50_1 rfl rfl rfl rfl rfl | exact rlive_sound ok50_1 rfl rfl rfl rfl rfl rfl | exact rlive_sound ok50_1 rfl rfl rfl rfl rfl rfl rfl | exact rlive_sound ok50_1 rfl rfl rfl rfl rfl rfl rfl rfl | exact rlive_sound ok50_1 rfl rfl rfl rfl rfl rfl rfl rfl rfl | exact rlive_sound ok50_1 rfl rfl rfl rfl rfl rfl rfl rfl rfl rfl | exact rlive_sound ok50_1 rfl rfl rfl rfl rfl rfl rfl rfl rfl rfl rfl | exact rlive_sound ok50_1 rfl rfl rfl rfl rfl rfl rfl rfl rfl rfl rfl rfl) (by kernel_rfl)
def ga52 : FuncId → Option Fspec := upd ga51 10 (some sortedS)
theorem ok52_1 : EnvOk ⟨Try.prog, plainT, ga52, de1, fun _ => none, 0⟩ := EnvOk.add ok51_1 (by first | exact sorted_sound ok51_1 | exact sorted_sound ok51_1 rfl | exact sorted_sound ok51_1 rfl rfl | exact sorted_sound ok51_1 rfl rfl rfl | exact sorted_sound ok51_1 rfl rfl rfl rfl | exact sorted_sound ok51_1 rfl rfl rfl rfl rfl | exact sorted_sound ok51_1 rfl rfl rfl rfl rfl rfl | exact sorted_sound ok51_1 rfl rfl rfl rfl rfl rfl rfl | exact sorted_sound ok51_1 rfl rfl rfl rfl rfl rfl rfl rfl | exact sorted_sound ok51_1 rfl rfl rfl rfl rfl rfl rfl rfl rfl | exact sorted_sound ok51_1 rfl rfl rfl rfl rfl rfl rfl rfl rfl rfl | exact sorted_sound ok51_1 rfl rfl rfl rfl rfl rfl rfl rfl rfl rfl rfl | exact sorted_sound ok51_1 rfl rfl rfl rfl rfl rfl rfl rfl rfl rfl rfl rfl) (by kernel_rfl)
def ga53 : FuncId → Option Fspec := upd ga52 22 (some undS)
theorem ok53_1 : EnvOk ⟨Try.prog, plainT, ga53, de1, fun _ => none, 0⟩ := EnvOk.add ok52_1 (by first | exact und_sound ok52_1 | exact und_sound ok52_1 rfl | exact und_sound ok52_1 rfl rfl | exact und_sound ok52_1 rfl rfl rfl | exact und_sound ok52_1 rfl rfl rfl rfl | exact und_sound ok52_1 rfl rfl rfl rfl rfl | exact und_sound ok52_1 rfl rfl rfl rfl rfl rfl | exact und_sound ok52_1 rfl rfl rfl rfl rfl rfl rfl | exact und_sound ok52_1 rfl rfl rfl rfl rfl rfl rfl rfl | exact und_sound ok52_1 rfl rfl rfl rfl rfl rfl rfl rfl rfl | exact und_sound ok52_1 rfl rfl rfl rfl rfl rfl rfl rfl rfl rfl | exact und_sound ok52_1 rfl rfl rfl rfl rfl rfl rfl rfl rfl rfl rfl | exact und_sound ok52_1 rfl rfl rfl rfl rfl rfl rfl rfl rfl rfl rfl rfl) (by kernel_rfl)
def ga54 : FuncId → Option Fspec := upd ga53 21 (some und1S)
theorem ok54_1 : EnvOk ⟨Try.prog, plainT, ga54, de1, fun _ => none, 0⟩ := EnvOk.add ok53_1 (by first | exact und1_sound ok53_1 | exact und1_sound ok53_1 rfl | exact und1_sound ok53_1 rfl rfl | exact und1_sound ok53_1 rfl rfl rfl | exact und1_sound ok53_1 rfl rfl rfl rfl | exact und1_sound ok53_1 rfl rfl rfl rfl rfl | exact und1_sound ok53_1 rfl rfl rfl rfl rfl rfl | exact und1_sound ok53_1 rfl rfl rfl rfl rfl rfl rfl | exact und1_sound ok53_1 rfl rfl rfl rfl rfl rfl rfl rfl | exact und1_sound ok53_1 rfl rfl rfl rfl rfl rfl rfl rfl rfl | exact und1_sound ok53_1 rfl rfl rfl rfl rfl rfl rfl rfl rfl rfl | exact und1_sound ok53_1 rfl rfl rfl rfl rfl rfl rfl rfl rfl rfl rfl | exact und1_sound ok53_1 rfl rfl rfl rfl rfl rfl rfl rfl rfl rfl rfl rfl) (by kernel_rfl)
def ga55 : FuncId → Option Fspec := upd ga54 33 (some (idxS encE))
theorem ok55_1 : EnvOk ⟨Try.prog, plainT, ga55, de1, fun _ => none, 0⟩ := EnvOk.add ok54_1 (by first | exact idx_sound ok54_1 | exact idx_sound ok54_1 rfl | exact idx_sound ok54_1 rfl rfl | exact idx_sound ok54_1 rfl rfl rfl | exact idx_sound ok54_1 rfl rfl rfl rfl | exact idx_sound ok54_1 rfl rfl rfl rfl rfl | exact idx_sound ok54_1 rfl rfl rfl rfl rfl rfl | exact idx_sound ok54_1 rfl rfl rfl rfl rfl rfl rfl | exact idx_sound ok54_1 rfl rfl rfl rfl rfl rfl rfl rfl | exact idx_sound ok54_1 rfl rfl rfl rfl rfl rfl rfl rfl rfl | exact idx_sound ok54_1 rfl rfl rfl rfl rfl rfl rfl rfl rfl rfl | exact idx_sound ok54_1 rfl rfl rfl rfl rfl rfl rfl rfl rfl rfl rfl | exact idx_sound ok54_1 rfl rfl rfl rfl rfl rfl rfl rfl rfl rfl rfl rfl) (by kernel_rfl)
def ga56 : FuncId → Option Fspec := upd ga55 20 (some (cfS encE))
theorem ok56_1 : EnvOk ⟨Try.prog, plainT, ga56, de1, fun _ => none, 0⟩ := EnvOk.add ok55_1 (by first | exact cf_sound ok55_1 | exact cf_sound ok55_1 rfl | exact cf_sound ok55_1 rfl rfl | exact cf_sound ok55_1 rfl rfl rfl | exact cf_sound ok55_1 rfl rfl rfl rfl | exact cf_sound ok55_1 rfl rfl rfl rfl rfl | exact cf_sound ok55_1 rfl rfl rfl rfl rfl rfl | exact cf_sound ok55_1 rfl rfl rfl rfl rfl rfl rfl | exact cf_sound ok55_1 rfl rfl rfl rfl rfl rfl rfl rfl | exact cf_sound ok55_1 rfl rfl rfl rfl rfl rfl rfl rfl rfl | exact cf_sound ok55_1 rfl rfl rfl rfl rfl rfl rfl rfl rfl rfl | exact cf_sound ok55_1 rfl rfl rfl rfl rfl rfl rfl rfl rfl rfl rfl | exact cf_sound ok55_1 rfl rfl rfl rfl rfl rfl rfl rfl rfl rfl rfl rfl) (by kernel_rfl)
def ga57 : FuncId → Option Fspec := upd ga56 11 (some live2S)
theorem ok57_1 : EnvOk ⟨Try.prog, plainT, ga57, de1, fun _ => none, 0⟩ := EnvOk.add ok56_1 (by first | exact live3_sound ok56_1 | exact live3_sound ok56_1 rfl | exact live3_sound ok56_1 rfl rfl | exact live3_sound ok56_1 rfl rfl rfl | exact live3_sound ok56_1 rfl rfl rfl rfl | exact live3_sound ok56_1 rfl rfl rfl rfl rfl | exact live3_sound ok56_1 rfl rfl rfl rfl rfl rfl | exact live3_sound ok56_1 rfl rfl rfl rfl rfl rfl rfl | exact live3_sound ok56_1 rfl rfl rfl rfl rfl rfl rfl rfl | exact live3_sound ok56_1 rfl rfl rfl rfl rfl rfl rfl rfl rfl | exact live3_sound ok56_1 rfl rfl rfl rfl rfl rfl rfl rfl rfl rfl | exact live3_sound ok56_1 rfl rfl rfl rfl rfl rfl rfl rfl rfl rfl rfl | exact live3_sound ok56_1 rfl rfl rfl rfl rfl rfl rfl rfl rfl rfl rfl rfl) (by kernel_rfl)
def ga58 : FuncId → Option Fspec := upd ga57 26 (some ed1S)
theorem ok58_1 : EnvOk ⟨Try.prog, plainT, ga58, de1, fun _ => none, 0⟩ := EnvOk.add ok57_1 (by first | exact ed1_sound ok57_1 | exact ed1_sound ok57_1 rfl | exact ed1_sound ok57_1 rfl rfl | exact ed1_sound ok57_1 rfl rfl rfl | exact ed1_sound ok57_1 rfl rfl rfl rfl | exact ed1_sound ok57_1 rfl rfl rfl rfl rfl | exact ed1_sound ok57_1 rfl rfl rfl rfl rfl rfl | exact ed1_sound ok57_1 rfl rfl rfl rfl rfl rfl rfl | exact ed1_sound ok57_1 rfl rfl rfl rfl rfl rfl rfl rfl | exact ed1_sound ok57_1 rfl rfl rfl rfl rfl rfl rfl rfl rfl | exact ed1_sound ok57_1 rfl rfl rfl rfl rfl rfl rfl rfl rfl rfl | exact ed1_sound ok57_1 rfl rfl rfl rfl rfl rfl rfl rfl rfl rfl rfl | exact ed1_sound ok57_1 rfl rfl rfl rfl rfl rfl rfl rfl rfl rfl rfl rfl) (by kernel_rfl)
def ga59 : FuncId → Option Fspec := upd ga58 16 (some editsS)
theorem ok59_1 : EnvOk ⟨Try.prog, plainT, ga59, de1, fun _ => none, 0⟩ := EnvOk.add ok58_1 (by first | exact edits_sound ok58_1 | exact edits_sound ok58_1 rfl | exact edits_sound ok58_1 rfl rfl | exact edits_sound ok58_1 rfl rfl rfl | exact edits_sound ok58_1 rfl rfl rfl rfl | exact edits_sound ok58_1 rfl rfl rfl rfl rfl | exact edits_sound ok58_1 rfl rfl rfl rfl rfl rfl | exact edits_sound ok58_1 rfl rfl rfl rfl rfl rfl rfl | exact edits_sound ok58_1 rfl rfl rfl rfl rfl rfl rfl rfl | exact edits_sound ok58_1 rfl rfl rfl rfl rfl rfl rfl rfl rfl | exact edits_sound ok58_1 rfl rfl rfl rfl rfl rfl rfl rfl rfl rfl | exact edits_sound ok58_1 rfl rfl rfl rfl rfl rfl rfl rfl rfl rfl rfl | exact edits_sound ok58_1 rfl rfl rfl rfl rfl rfl rfl rfl rfl rfl rfl rfl) (by kernel_rfl)
def ga60 : FuncId → Option Fspec := upd ga59 9 (some aliveS)
theorem ok60_1 : EnvOk ⟨Try.prog, plainT, ga60, de1, fun _ => none, 0⟩ := EnvOk.add ok59_1 (by first | exact alive_sound ok59_1 | exact alive_sound ok59_1 rfl | exact alive_sound ok59_1 rfl rfl | exact alive_sound ok59_1 rfl rfl rfl | exact alive_sound ok59_1 rfl rfl rfl rfl | exact alive_sound ok59_1 rfl rfl rfl rfl rfl | exact alive_sound ok59_1 rfl rfl rfl rfl rfl rfl | exact alive_sound ok59_1 rfl rfl rfl rfl rfl rfl rfl | exact alive_sound ok59_1 rfl rfl rfl rfl rfl rfl rfl rfl | exact alive_sound ok59_1 rfl rfl rfl rfl rfl rfl rfl rfl rfl | exact alive_sound ok59_1 rfl rfl rfl rfl rfl rfl rfl rfl rfl rfl | exact alive_sound ok59_1 rfl rfl rfl rfl rfl rfl rfl rfl rfl rfl rfl | exact alive_sound ok59_1 rfl rfl rfl rfl rfl rfl rfl rfl rfl rfl rfl rfl) (by kernel_rfl)
abbrev gaE := ga60
abbrev deE := de1
theorem okE : EnvOk ⟨Try.prog, plainT, gaE, deE, fun _ => none, 0⟩ := ok60_1
end Go.Proofs.Ytahgddfnbjpfiaa

set_option linter.unusedVariables false
set_option maxRecDepth 100000
namespace Go.Proofs.Ytahgddfnbjpfiaa
open Go Go.RowKit Am Go.ChangeShapes Go.WideShapes

theorem bulk_pos {H : Type} (d : DataW H) : 1 ≤ Rows.uptoBulk d := by
  cases d with
  | lit l => cases l <;> simp [Rows.uptoBulk]
  | _ => simp [Rows.uptoBulk]
def bulk : Bulk where
  bk := Rows.uptoBulk
  bks := Rows.uptoBulkAll
  str := fun b => by simp only [Rows.uptoBulk]
  sl := fun e s => by simp only [Rows.uptoBulk]
  agg := fun e => by simp only [Rows.uptoBulk]
  pos := bulk_pos
  nil := by intro H; simp only [Rows.uptoBulkAll]
  cons := fun d r => by simp only [Rows.uptoBulkAll]
theorem opnStr : Opn bulk Try.prog 9 encStr bdStr := .str (by kernel_rfl)
theorem opnInt : Opn bulk Try.prog 3 (encInt .i64) (bdInt .i64) := .int (by kernel_rfl)
theorem opnU8 : Opn bulk Try.prog 5 (encInt .u8) (bdInt .u8) := .int (by kernel_rfl)
theorem opnBool : Opn bulk Try.prog 4 encBool bdBool := .bool (by kernel_rfl)
def bdId (x : Idt) (m : Nat) : Prop := x.a.size < m
theorem opnId : Opn bulk Try.prog 29 encId bdId := by
  refine Opn.map (fun p : ByteArray × Int × Unit => (⟨p.1, p.2.1⟩ : Idt)) (Opn.struct (enc := fun p => encStr p.1 ++ ((encInt .i64) p.2.1 ++ ([]))) (bd := fun p m => bdStr p.1 m ∧ ((bdInt .i64) p.2.1 m ∧ (True))) Try.underlying29 ?_) (fun _ => rfl) (by intro p m h; exact h.1) (by intro b m m' h h2; exact Nat.lt_of_lt_of_le h2 h)
  rw [show Program.cellsOf Try.prog 29 = 2 by kernel_rfl]
  exact OpnF.cons (enc := encStr) (bd := bdStr) (z := 1) rfl (by kernel_rfl) (fun _ => rfl) opnStr (OpnF.cons (enc := (encInt .i64)) (bd := (bdInt .i64)) (z := 1) rfl (by kernel_rfl) (fun _ => rfl) opnInt OpnF.nil)
instance : Inhabited Idt := ⟨⟨⟨#[]⟩, 0⟩⟩
theorem opnIds : Opn bulk Try.prog 30 (encSl encId) (bdSl bdId) := Opn.slice (z := 2) Try.underlying30 (by kernel_rfl) (by decide) (fun _ => rfl) opnId
def encRat (x : Bool × ByteArray × ByteArray) : List V := [.s (.bool x.1), .s (.string x.2.1), .s (.string x.2.2)]
def bdRat (x : Bool × ByteArray × ByteArray) (m : Nat) : Prop := x.2.1.size < m ∧ x.2.2.size < m
theorem opnRat : Opn bulk Try.prog 32 encRat bdRat := by
  refine Opn.map (fun p : Bool × ByteArray × ByteArray × Unit => ((p.1, p.2.1, p.2.2.1) : (Bool × ByteArray × ByteArray))) (Opn.struct (enc := fun p => encBool p.1 ++ (encStr p.2.1 ++ (encStr p.2.2.1 ++ ([])))) (bd := fun p m => bdBool p.1 m ∧ (bdStr p.2.1 m ∧ (bdStr p.2.2.1 m ∧ (True)))) Try.underlying32 ?_) (fun _ => rfl) (by intro p m h; exact ⟨h.2.1, h.2.2.1⟩) (by intro b m m' h h2; exact ⟨Nat.lt_of_lt_of_le h2.1 h, Nat.lt_of_lt_of_le h2.2 h⟩)
  rw [show Program.cellsOf Try.prog 32 = 3 by kernel_rfl]
  exact OpnF.cons (enc := encBool) (bd := bdBool) (z := 1) rfl (by kernel_rfl) (fun _ => rfl) opnBool (OpnF.cons (enc := encStr) (bd := bdStr) (z := 1) rfl (by kernel_rfl) (fun _ => rfl) opnStr (OpnF.cons (enc := encStr) (bd := bdStr) (z := 1) rfl (by kernel_rfl) (fun _ => rfl) opnStr OpnF.nil))
structure bdE (x : Edt) (m : Nat) : Prop where
  id : x.id.a.size < m
  node : x.node.a.size < m
  parent : x.parent.a.size < m
  target : x.target.a.size < m
  num : x.num.size < m
  den : x.den.size < m
  field : x.field.size < m
  value : x.value.size < m
  who : x.who.size < m
  deps : x.deps.length < m
  dep : ∀ y ∈ x.deps, bdId y m
instance : Inhabited Edt := ⟨⟨default, 0, 0, [], 0, default, default, false, ⟨#[]⟩, ⟨#[]⟩, ⟨#[]⟩, ⟨#[]⟩, default, ⟨#[]⟩⟩⟩
theorem opnE : Opn bulk Try.prog 34 encE bdE := by
  refine Opn.map (fun p : Idt × Int × Int × (List Idt) × Int × Idt × Idt × (Bool × ByteArray × ByteArray) × ByteArray × ByteArray × Idt × ByteArray × Unit => (⟨p.1, p.2.1, p.2.2.1, p.2.2.2.1, p.2.2.2.2.1, p.2.2.2.2.2.1, p.2.2.2.2.2.2.1, p.2.2.2.2.2.2.2.1.1, p.2.2.2.2.2.2.2.1.2.1, p.2.2.2.2.2.2.2.1.2.2, p.2.2.2.2.2.2.2.2.1, p.2.2.2.2.2.2.2.2.2.1, p.2.2.2.2.2.2.2.2.2.2.1, p.2.2.2.2.2.2.2.2.2.2.2.1⟩ : Edt)) (Opn.struct (enc := fun p => encId p.1 ++ ((encInt .i64) p.2.1 ++ ((encInt .i64) p.2.2.1 ++ ((encSl encId) p.2.2.2.1 ++ ((encInt .i64) p.2.2.2.2.1 ++ (encId p.2.2.2.2.2.1 ++ (encId p.2.2.2.2.2.2.1 ++ (encRat p.2.2.2.2.2.2.2.1 ++ (encStr p.2.2.2.2.2.2.2.2.1 ++ (encStr p.2.2.2.2.2.2.2.2.2.1 ++ (encId p.2.2.2.2.2.2.2.2.2.2.1 ++ (encStr p.2.2.2.2.2.2.2.2.2.2.2.1 ++ ([]))))))))))))) (bd := fun p m => bdId p.1 m ∧ ((bdInt .i64) p.2.1 m ∧ ((bdInt .i64) p.2.2.1 m ∧ ((bdSl bdId) p.2.2.2.1 m ∧ ((bdInt .i64) p.2.2.2.2.1 m ∧ (bdId p.2.2.2.2.2.1 m ∧ (bdId p.2.2.2.2.2.2.1 m ∧ (bdRat p.2.2.2.2.2.2.2.1 m ∧ (bdStr p.2.2.2.2.2.2.2.2.1 m ∧ (bdStr p.2.2.2.2.2.2.2.2.2.1 m ∧ (bdId p.2.2.2.2.2.2.2.2.2.2.1 m ∧ (bdStr p.2.2.2.2.2.2.2.2.2.2.2.1 m ∧ (True))))))))))))) Try.underlying34 ?_) (fun _ => rfl) (by intro p m h; exact ⟨h.1, h.2.2.2.2.2.1, h.2.2.2.2.2.2.1, h.2.2.2.2.2.2.2.2.2.2.1, h.2.2.2.2.2.2.2.1.1, h.2.2.2.2.2.2.2.1.2, h.2.2.2.2.2.2.2.2.1, h.2.2.2.2.2.2.2.2.2.1, h.2.2.2.2.2.2.2.2.2.2.2.1, h.2.2.2.1.1, h.2.2.2.1.2⟩) (by intro b m m' h h2; exact ⟨Nat.lt_of_lt_of_le h2.id h, Nat.lt_of_lt_of_le h2.node h, Nat.lt_of_lt_of_le h2.parent h, Nat.lt_of_lt_of_le h2.target h, Nat.lt_of_lt_of_le h2.num h, Nat.lt_of_lt_of_le h2.den h, Nat.lt_of_lt_of_le h2.field h, Nat.lt_of_lt_of_le h2.value h, Nat.lt_of_lt_of_le h2.who h, Nat.lt_of_lt_of_le h2.deps h, fun y hy => opnId.1 y m m' h (h2.dep y hy)⟩)
  rw [show Program.cellsOf Try.prog 34 = 18 by kernel_rfl]
  exact OpnF.cons (enc := encId) (bd := bdId) (z := 2) rfl (by kernel_rfl) (fun _ => rfl) opnId (OpnF.cons (enc := (encInt .i64)) (bd := (bdInt .i64)) (z := 1) rfl (by kernel_rfl) (fun _ => rfl) opnInt (OpnF.cons (enc := (encInt .i64)) (bd := (bdInt .i64)) (z := 1) rfl (by kernel_rfl) (fun _ => rfl) opnInt (OpnF.cons (enc := (encSl encId)) (bd := (bdSl bdId)) (z := 1) rfl (by kernel_rfl) (fun _ => rfl) opnIds (OpnF.cons (enc := (encInt .i64)) (bd := (bdInt .i64)) (z := 1) rfl (by kernel_rfl) (fun _ => rfl) opnInt (OpnF.cons (enc := encId) (bd := bdId) (z := 2) rfl (by kernel_rfl) (fun _ => rfl) opnId (OpnF.cons (enc := encId) (bd := bdId) (z := 2) rfl (by kernel_rfl) (fun _ => rfl) opnId (OpnF.cons (enc := encRat) (bd := bdRat) (z := 3) rfl (by kernel_rfl) (fun _ => rfl) opnRat (OpnF.cons (enc := encStr) (bd := bdStr) (z := 1) rfl (by kernel_rfl) (fun _ => rfl) opnStr (OpnF.cons (enc := encStr) (bd := bdStr) (z := 1) rfl (by kernel_rfl) (fun _ => rfl) opnStr (OpnF.cons (enc := encId) (bd := bdId) (z := 2) rfl (by kernel_rfl) (fun _ => rfl) opnId (OpnF.cons (enc := encStr) (bd := bdStr) (z := 1) rfl (by kernel_rfl) (fun _ => rfl) opnStr OpnF.nil)))))))))))
theorem opnEs : Opn bulk Try.prog 22 (encSl encE) (bdSl bdE) := Opn.slice (z := 18) Try.underlying22 (by kernel_rfl) (by decide) (fun _ => rfl) opnE
theorem smA_of {l : List Edt} {m : Nat} (h : bdSl bdE l m) (hm : m ≤ 1048576) : smA l := ⟨by have := h.1; omega, fun x hx => by
  have b := h.2 x hx
  have h1 := b.id; have h2 := b.node; have h3 := b.parent; have h4 := b.target; have h5 := b.num; have h6 := b.den; have h7 := b.field; have h8 := b.value; have h9 := b.who; have h10 := b.deps
  exact ⟨by omega, by omega, by omega, by omega, by omega, by omega, by omega, by omega, by omega, by omega, fun y hy => by have := b.dep y hy; unfold bdId at this; omega⟩⟩
theorem own : ownKnob Try.prog.godebug = none := by kernel_rfl
theorem laidOut : laidOutB Try.prog = true := by kernel_rfl
end Go.Proofs.Ytahgddfnbjpfiaa

set_option linter.unusedVariables false
set_option linter.unusedSimpArgs false
namespace Go.Proofs.Ytahgddfnbjpfiaa
open Go Go.RowKit Am

/-- What a valid edit says of itself. -/
structure VaE (e : Edt) : Prop where
  auth : authF e.id.a = true
  n1 : 1 ≤ e.id.n
  n2 : e.id.n ≤ 1000000000
  c1 : e.id.n ≤ e.clock
  c2 : e.clock ≤ 1000000000
  f1 : 0 ≤ e.floor
  f2 : e.floor < e.clock
  val : Val e.deps
  big : ∀ x ∈ e.deps, x.n ≤ 1000000000
  k1 : 1 ≤ e.kind
  k2 : e.kind ≤ 6
  dl : e.deps.length ≤ 20
  vl : e.value.size ≤ 300
  fl : e.field.size ≤ 300
theorem vaE_of {e : Edt} (h : eBad e = false) : VaE e := by
  unfold eBad at h
  simp only [Bool.or_eq_false_iff, decide_eq_false_iff_not, bne_eq_false_iff_eq] at h
  obtain ⟨⟨⟨h1, h2⟩, h3⟩, h4⟩ := h
  unfold chkEF at h4
  split at h4
  · cases h4
  rename_i a1
  split at h4
  · cases h4
  rename_i a2
  split at h4
  · rename_i a3
    rw [h4] at a3
    simp at a3
  rename_i a3
  split at h4
  · cases h4
  rename_i a4
  split at h4
  · cases h4
  rename_i a5
  split at h4
  · cases h4
  rename_i a6
  simp only [rngF, Bool.or_eq_true, decide_eq_true_eq, not_or] at a2
  simp only [Bool.or_eq_true, decide_eq_true_eq, not_or] at a6
  simp only [bigF, Bool.not_eq_true, List.any_eq_false, decide_eq_true_eq] at a4
  have a3 : chkF e.deps = 0 := by simpa using a3
  exact ⟨by simpa using a1, by omega, by omega, by omega, by omega, by omega, by omega, val_of_chk a3, fun x hx => by have := a4 x hx; omega, by omega, by omega, by omega, by omega, by omega⟩
theorem sFrom_all {l : List Edt} : ∀ (m i : Nat), i + m ≤ l.length → sFrom l m i = true → ∀ j (hj : j < l.length), i ≤ j → j < i + m → eBad l[j] = false ∧ ∀ h : 0 < j, cmpE l[j - 1] l[j] < 0
  | 0, i, _, _, j, _, h1, h2 => by omega
  | m + 1, i, hl, h, j, hj, h1, h2 => by
    have hi : i < l.length := by omega
    rw [sFrom, List.getElem?_eq_getElem hi] at h
    simp only [Bool.and_eq_true, Bool.not_eq_true'] at h
    obtain ⟨⟨g1, g2⟩, g3⟩ := h
    by_cases hji : j = i
    · subst hji
      refine ⟨g1, fun h0 => ?_⟩
      rw [List.getElem?_eq_getElem (by omega : j - 1 < l.length)] at g2
      simp only [Bool.and_eq_false_iff, decide_eq_false_iff_not] at g2
      rcases g2 with g2 | g2
      · omega
      · omega
    · exact sFrom_all m (i + 1) (by omega) g3 j hj (by omega) (by omega)
theorem cmpE_clock {a b : Edt} (h : cmpE a b < 0) : a.clock ≤ b.clock := by
  unfold cmpE at h
  by_cases h1 : a.clock ≤ b.clock
  · exact h1
  · rw [cmpI_gt (by omega)] at h
    simp [orF] at h
/-- A sorted list of valid edits. -/
structure Srt (l : List Edt) : Prop where
  len : l.length ≤ 40
  va : ∀ e ∈ l, VaE e
  ord : ∀ i (hi : i + 1 < l.length), cmpE l[i] l[i + 1] < 0
theorem srt_of {l : List Edt} (h : srtF l = true) : Srt l := by
  unfold srtF at h
  rw [Bool.and_eq_true, decide_eq_true_eq] at h
  have hall := sFrom_all l.length 0 (by omega) h.2
  refine ⟨by omega, fun e he => ?_, fun i hi => ?_⟩
  · obtain ⟨j, hj, rfl⟩ := List.getElem_of_mem he
    exact vaE_of (hall j hj (by omega) (by omega)).1
  · have := (hall (i + 1) hi (by omega) (by omega)).2 (by omega)
    simpa using this
theorem Srt.clock {l : List Edt} (h : Srt l) : ∀ (k i : Nat) (hk : k < l.length) (hi : i ≤ k), l[i].clock ≤ l[k].clock
  | 0, i, hk, hi => by
    have : i = 0 := by omega
    subst this; exact Int.le_refl _
  | k + 1, i, hk, hi => by
    by_cases e : i = k + 1
    · subst e; exact Int.le_refl _
    · exact Int.le_trans (h.clock k i (by omega) (by omega)) (cmpE_clock (h.ord k hk))
theorem Srt.res {l : List Edt} (h : Srt l) : allL unF l = allL rUn l := allL_congr l fun u hu x _ => un_r (h.va u hu).val x
end Go.Proofs.Ytahgddfnbjpfiaa

set_option linter.unusedVariables false
set_option linter.unusedSimpArgs false
set_option maxRecDepth 100000
set_option maxHeartbeats 16000000
namespace Go.Proofs.Ytahgddfnbjpfiaa
open Go Go.RowKit Am

/-- A law over a list of edits. -/
def lawES : Fspec := fun _ ds r => ∃ es : List Edt, smA es ∧ ds = [.sl (es.map encE)] ∧ r = .s (.bool true)
theorem resLaw_sound {plain : TypeId → Bool} {Γ : FuncId → Option Fspec} {Δ : FuncId → Option Pt} (hE : EnvOk ⟨Try.prog, plain, Γ, Δ, fun _ => none, 0⟩) (g_alive : Γ 9 = some aliveS) (g_sorted : Γ 10 = some sortedS) (g_live : Γ 11 = some live2S) (g_rlive : Γ 12 = some rliveS) : Sound Try.prog 3 lawES := by
  refine sound_of_awp hE Try.func3 rfl (by kernel_rfl) ?_
  rintro Φ ds r ⟨es, hs, rfl, rfl⟩
  refine ⟨by simp [Try.f3], ?_⟩
  unfold st0
  refine W.out (E := ⟨Try.prog, plain, Γ, Δ, Φ, _⟩) ?_
  refine go trivial ?_
  refine x_callN rfl rfl rfl rfl (sv trivial) g_alive (sv trivial) (se trivial) ⟨rfl, rfl⟩ rfl ?_
  refine go trivial ?_
  refine x_callN rfl rfl rfl rfl (sv trivial) g_sorted (sv trivial) (se trivial) ⟨es, hs, rfl, rfl⟩ rfl ?_
  cases hq : srtF es
  · rw [if_neg (by decide)]
    have z0 : ((0 : Int) == 0) = true := rfl
    refine go z0 ?_
    refine x_done (x_out (sr @Try.f3.eq_1) (by simp) (by simp) rfl)
  have z1 : ((1 : Int) == 0) = false := rfl
  have S := srt_of hq
  have hl40 := S.len
  rw [if_pos rfl]
  refine go z1 ?_
  refine x_callS rfl rfl rfl rfl (sv trivial) g_live (sv trivial) (se trivial) ⟨es, hs.l, rfl, rfl⟩ (by simp) (by simp [touchA, touch]) ?_
  refine go trivial ?_
  refine x_callS rfl rfl rfl rfl (sv trivial) g_rlive (sv trivial) (se trivial) ⟨es, hs.l, rfl, rfl⟩ (by simp) (by simp [touchA, touch]) ?_
  rw [S.res]
  have hlen := allL_len rUn es
  generalize allL rUn es = L at *
  have hr := encB_rows L
  refine go trivial ?_
  refine x_loop (fun σ => ∃ (i : Nat), σ.t 3 = .sl (L.map encBo) ∧ σ.t 4 = .sl (L.map encBo) ∧ σ.t 5 = .s (.int .i64 i) ∧ i ≤ L.length) (fun σ => L.length - ix (σ.t 5)) ⟨0, (by first | assumption | exact sxa trivial), (by first | assumption | exact sxa trivial), (by first | assumption | exact sxa trivial), (by first | rfl | omega | assumption | (simp [*]; done))⟩ ?_
  rintro t h n ⟨i, h3, h4, h5, hf0⟩
  simp only at h3 h4 h5
  refine go (And.intro h3 (And.intro h4 h5)) ?_
  refine x_condP (sv (And.intro h3 (And.intro h4 h5))) (fun hc => ?_) (fun hc => ?_)
  · have hi : i < L.length := by omega
    have hrow : ((L.map encBo).getD i []) = [.s (.bool L[i])] := getD_map _ _ _ hi
    generalize L[i] = x at *
    refine go (And.intro h3 (And.intro h4 (And.intro h5 (And.intro hr hrow)))) ?_
    (refine ⟨⟨i + 1, ?_, ?_, ?_, ?_⟩, ?_⟩ <;> (first | omega | (dsimp only; omega) | (first | omega | assumption | (simp [*]; done)) | exact sxa @cast_succ | exact soa trivial))
  · have e : i = L.length := by omega
    subst e
    refine go (And.intro h3 (And.intro h4 h5)) ?_
    refine x_done (x_out (sr @Try.f3.eq_1) (by simp) (by simp) rfl)
end Go.Proofs.Ytahgddfnbjpfiaa
