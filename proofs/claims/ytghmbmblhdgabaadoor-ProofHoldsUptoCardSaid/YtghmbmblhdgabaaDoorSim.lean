/- The rules of a step, all in one. -/
import Derived.Test.YtghmbmblhdgabaaDoorViewA
set_option linter.all false
namespace Go.Den
open Go
theorem args_nil (i : Nat) : args i [] = [] := rfl
theorem args_cons (i : Nat) (v : V) (r : List V) : args i (v :: r) = (i, v) :: args (i + 1) r := rfl
theorem only_nil (e : E) : only [] e = [] := rfl
theorem only_cons (t : Nat) (r : List Nat) (e : E) : only (t :: r) e = (t, E.get e t) :: only r e := rfl
theorem getv_zero (v : V) (r : List V) : (v :: r)[0]? = some v := List.getElem?_cons_zero
theorem getv_succ (v : V) (r : List V) (i : Nat) : (v :: r)[i + 1]? = r[i]? := List.getElem?_cons_succ
theorem one_zero : ((1 : Nat) = 0) = False := by simp
theorem zero_one : ((0 : Nat) = 1) = False := by simp
theorem sx : type_of% (And.intro (And.intro (And.intro (And.intro (And.intro @bd_some (And.intro @bd2_some @bdB_some)) (And.intro @byV_bool (And.intro @byT_true @byT_false))) (And.intro (And.intro @KX_val (And.intro @KX_new @kX_nx)) (And.intro @kX_ex (And.intro @kX_rt @kXB_nx)))) (And.intro (And.intro (And.intro @kXB_ex (And.intro @kXB_rt @cells_byte)) (And.intro @cells_bool (And.intro @cells_int @cells_str))) (And.intro (And.intro @cells_ptr (And.intro @cells_nils @cells_sl)) (And.intro (And.intro @cells_agg @XW_skip) (And.intro @XW_ret @XW_exit))))) (And.intro (And.intro (And.intro (And.intro @E.get_cons (And.intro @args_nil @args_cons)) (And.intro @only_nil (And.intro @only_cons @intX_int))) (And.intro (And.intro @tupX_tup (And.intro @byte_neq @byte_eql)) (And.intro (And.intro @binV_add @binV_sub) (And.intro @binV_mul @binV_eql)))) (And.intro (And.intro (And.intro @binV_neq (And.intro @binV_lss @binV_leq)) (And.intro @binV_gtr (And.intro @binV_geq @unV_not))) (And.intro (And.intro @ncV_ptr (And.intro @one_zero @zero_one)) (And.intro (And.intro @NK_at @NK_ptr) (And.intro @getv_zero @getv_succ)))))) :=
  (And.intro (And.intro (And.intro (And.intro (And.intro @bd_some (And.intro @bd2_some @bdB_some)) (And.intro @byV_bool (And.intro @byT_true @byT_false))) (And.intro (And.intro @KX_val (And.intro @KX_new @kX_nx)) (And.intro @kX_ex (And.intro @kX_rt @kXB_nx)))) (And.intro (And.intro (And.intro @kXB_ex (And.intro @kXB_rt @cells_byte)) (And.intro @cells_bool (And.intro @cells_int @cells_str))) (And.intro (And.intro @cells_ptr (And.intro @cells_nils @cells_sl)) (And.intro (And.intro @cells_agg @XW_skip) (And.intro @XW_ret @XW_exit))))) (And.intro (And.intro (And.intro (And.intro @E.get_cons (And.intro @args_nil @args_cons)) (And.intro @only_nil (And.intro @only_cons @intX_int))) (And.intro (And.intro @tupX_tup (And.intro @byte_neq @byte_eql)) (And.intro (And.intro @binV_add @binV_sub) (And.intro @binV_mul @binV_eql)))) (And.intro (And.intro (And.intro @binV_neq (And.intro @binV_lss @binV_leq)) (And.intro @binV_gtr (And.intro @binV_geq @unV_not))) (And.intro (And.intro @ncV_ptr (And.intro @one_zero @zero_one)) (And.intro (And.intro @NK_at @NK_ptr) (And.intro @getv_zero @getv_succ))))))
end Go.Den
