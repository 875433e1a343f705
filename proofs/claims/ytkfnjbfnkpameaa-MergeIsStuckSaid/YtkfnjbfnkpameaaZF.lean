/- Part 6 of the proof of MergeIsStuck (several texts in one; no further condition). -/
import Derived.Test.YtkfnjbfnkpameaaZE
set_option linter.unusedSimpArgs false
set_option linter.unusedVariables false
set_option linter.unusedSectionVars false
namespace Go.Proofs.Ytkfnjbfnkpameaa
open _root_.List renaming append_assoc->gr,append_nil->ic,cons_append->gz,drop_succ_cons->lc,drop_zero->gt,length_append->f7,length_cons->gp,length_map->fw,length_nil->jk,nil_append->gm
open _root_.Nat renaming eq_of_beq_eq_true->fq,reduceAdd->gb,reduceSub->i9,zero_add->jb
open Go Go.RowKit
theorem yjw:z36 Try.prog LL:=by
  intro gf i h;unfold z5e at h;obtain ⟨_,h⟩:=zei h;unfold itOf at h;rw [zcn] at h;split at h
  . rename_i h1;cases h;rw [fq h1];exact ymm
  . obtain ⟨h1,h⟩:=zei h;cases h;rw [fq h1];exact yhi
end Go.Proofs.Ytkfnjbfnkpameaa
